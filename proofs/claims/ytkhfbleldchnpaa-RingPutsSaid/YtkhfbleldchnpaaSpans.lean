/- Spans in memory; Check (arena) and Arena (plugref): the same error. -/
import Derived.Test.YtkhfbleldchnpaaKit
import Derived.Test.YtkhfbleldchnpaaHostWord
namespace Go.Proofs.Ytkhfbleldchnpaa
open Go.RowKit
set_option linter.unusedVariables false
set_option maxRecDepth 100000

/-- the cells of pairs of numbers -/
def pairs (l : List (Int × Int)) : List Value := l.flatMap fun p => [.int .i64 p.1, .int .i64 p.2]
theorem pairs_length (l : List (Int × Int)) : (pairs l).length = l.length * 2 := by
  induction l with
  | nil => rfl
  | cons p l ih => simp only [pairs, List.flatMap_cons, List.length_append, List.length_cons, List.length_nil] at ih ⊢; omega
theorem pairs_get (l : List (Int × Int)) : ∀ (k : Nat) (h : k < l.length), (pairs l)[k * 2]? = some (.int .i64 l[k].1) ∧ (pairs l)[k * 2 + 1]? = some (.int .i64 l[k].2) := by
  induction l with
  | nil => intro k h; exact absurd h (Nat.not_lt_zero _)
  | cons p l ih =>
    intro k h
    cases k with
    | zero => exact ⟨rfl, rfl⟩
    | succ k =>
      have := ih k (by simpa using h)
      have e : pairs (p :: l) = .int .i64 p.1 :: .int .i64 p.2 :: pairs l := rfl
      rw [e, show (k + 1) * 2 = k * 2 + 2 by omega]
      exact this
/-- the cells of an element of a slice of pairs -/
theorem Reads.pair {w : World} {a : Option Addr} {n cap : Nat} {l : List (Int × Int)} (h : Reads w 2 (.slice a n cap) n (pairs l)) (k : Nat) (hk : k < l.length) :
    ∃ b off, a = some ⟨b, off, none⟩ ∧ b < w.heap.size ∧ w.cell? ⟨b, off + k * 2, none⟩ = some (.int .i64 l[k].1) ∧ w.cell? ⟨b, off + k * 2 + 1, none⟩ = some (.int .i64 l[k].2) := by
  obtain ⟨h1, a', cap', h2, h3, h4, h5⟩ := h
  rw [pairs_length] at h1
  obtain ⟨b, off, e, hb, hc⟩ := h5 (by omega)
  simp only [Value.slice.injEq] at h2
  obtain ⟨rfl, -, rfl⟩ := h2
  have hp := pairs_get l k hk
  exact ⟨b, off, e, hb, hc _ _ hp.1, by rw [Nat.add_assoc]; exact hc _ _ hp.2⟩

def spOk (size : Int) : Int → List (Int × Int) → Bool
  | _, [] => true
  | e, p :: l => decide (1 ≤ p.2) && decide (e ≤ p.1) && decide (p.1 < size) && decide (p.2 ≤ size - p.1) && spOk size (p.1 + p.2) l
def arErr (size : Int) (l : List (Int × Int)) : Int := if size < 1 ∨ 65536 < size then 1 else if 64 < l.length then 2 else if spOk size 0 l then 0 else 4
theorem drop_get {α : Type} (l : List α) (k : Nat) (h : k < l.length) : l.drop k = l[k] :: l.drop (k + 1) := List.drop_eq_getElem_cons h
theorem spOk_no {size x y z : Int} (t : List (Int × Int)) (h : ¬ (1 ≤ z ∧ x ≤ y ∧ y < size ∧ z ≤ size - y)) : spOk size x ((y, z) :: t) = false := by
  unfold spOk
  simp
  intro a b c d
  exact absurd ⟨a, b, c, d⟩ h
theorem spOk_yes {size x y z : Int} (t : List (Int × Int)) (h : 1 ≤ z ∧ x ≤ y ∧ y < size ∧ z ≤ size - y) : spOk size x ((y, z) :: t) = spOk size (y + z) t := by
  obtain ⟨a, b, c, d⟩ := h
  conv => lhs; unfold spOk
  simp [a, b, c, d]
set_option maxHeartbeats 1000000 in
theorem checkA_any (size : Int) (hs : I64 size) (a : Option Addr) (cap : Nat) (l : List (Int × Int)) (hl : ∀ p ∈ l, I64 p.1 ∧ I64 p.2) (w : World) (hr : Reads w 2 (.slice a l.length cap) l.length (pairs l)) :
    Calls Try.prog 29 #[.agg #[.int .i64 size, .slice a l.length cap]] w fun r w' => r = .returned (.int .i64 (arErr size l)) ∧ Below w.heap.size w w' := by
  unfold I64 at hs
  have hcm : l.length ≤ cap ∧ cap ≤ maxLen := by
    obtain ⟨a', cap', h2, h1, h3, h4, h5⟩ := hr.open
    simp only [Value.slice.injEq] at h2
    obtain ⟨rfl, -, rfl⟩ := h2
    exact ⟨h3, h4⟩
  unfold maxLen at hcm
  have hlen : l.length ≤ 9223372036854775807 := by omega
  have HR := Lib.hid hr
  clear hr hcm
  by_cases h1 : size < 1 ∨ 65536 < size
  · have e : arErr size l = 1 := if_pos h1
    rw [e]
    clear e
    rcases h1 with h1 | h1
    all_goals
      go_enter Try.func29, Try.ntmps29
      go_wp2
      go_ret
      exact ⟨rfl, (Below.refl _ _).alloc (Nat.le_refl _) _⟩
  · by_cases h2 : 64 < l.length
    · have e : arErr size l = 2 := by unfold arErr; rw [if_neg h1, if_pos h2]
      rw [e]
      clear e
      go_enter Try.func29, Try.ntmps29
      go_wp2
      go_ret
      exact ⟨rfl, (Below.refl _ _).alloc (Nat.le_refl _) _⟩
    · have e : arErr size l = if spOk size 0 l then 0 else 4 := by unfold arErr; rw [if_neg h1, if_neg h2]
      have HE := Lib.hid e
      clear e
      go_enter Try.func29, Try.ntmps29
      go_wp2
      go_loopw [3, 23] (fun e i wr => ∃ k : Nat, k ≤ l.length ∧ i = .int .i64 k ∧ ∃ x : Int, e = .int .i64 x ∧ (0 ≤ x ∧ x ≤ 65536) ∧ Hid (spOk size 0 l = spOk size x (l.drop k)) ∧ Below (w.heap.size + 1) (w.alloc (.cells #[.int .i64 size, .slice a l.length cap] 46)) wr)
        (fun _ i _ => l.length - (intOf i).toNat)
      case atStart => exact ⟨0, Nat.zero_le _, rfl, 0, rfl, by decide, Lib.hid rfl, Below.refl _ _⟩
      case round =>
        obtain ⟨k, hk, rfl, x, rfl, hx, HS, hbel⟩ := hrel
        have hsz : w.heap.size < wr.heap.size := by have := hbel.size; simp at this; omega
        have c0 : wr.cell? ⟨w.heap.size, 0, none⟩ = some (.int .i64 size) := (hbel.cell (by simp)).trans (by simp)
        by_cases hlt : k < l.length
        · obtain ⟨b, off, rfl, hb, hc1, hc2⟩ := Reads.pair HR.out k hlt
          have d1 : wr.cell? ⟨b, off + k * 2, none⟩ = some (.int .i64 l[k].1) := (hbel.cell (p := ⟨b, off + k * 2, none⟩) (by simp; omega)).trans ((World.cell?_alloc_lt _ _ _ hb).trans hc1)
          have d2 : wr.cell? ⟨b, off + k * 2 + 1, none⟩ = some (.int .i64 l[k].2) := (hbel.cell (p := ⟨b, off + k * 2 + 1, none⟩) (by simp; omega)).trans ((World.cell?_alloc_lt _ _ _ hb).trans hc2)
          clear hc1 hc2
          have hp := hl l[k] (List.getElem_mem hlt)
          unfold I64 at hp
          have HD := Lib.hid (drop_get l k hlt)
          clear hl
          generalize l[k] = p at *
          obtain ⟨y, z⟩ := p
          go_wp2_with fail
          case roundEnd =>
            go_roundw
            case rel =>
              refine ⟨k + 1, by omega, by go_num, y + z, rfl, by omega, Lib.hid ?_, hbel.alloc (by omega) _⟩
              rw [HS.out, HD.out, spOk_yes _ (by omega)]
            case measure => simp [intOf]; omega
          all_goals
            go_ret
            refine ⟨ret_i ?_, (((Below.refl _ _).alloc (Nat.le_refl _) _).trans (hbel.mono (by omega))).alloc (by omega) _⟩
            rw [HE.out, HS.out, HD.out, spOk_no _ (by omega)]
            rfl
        · obtain rfl : k = l.length := by omega
          go_wp2_with fail
          go_ret
          refine ⟨ret_i ?_, (((Below.refl _ _).alloc (Nat.le_refl _) _).trans (hbel.mono (by omega)))⟩
          rw [HE.out, HS.out, List.drop_length]
          rfl
end Go.Proofs.Ytkhfbleldchnpaa
