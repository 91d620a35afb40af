/- Rings in memory; Check (ring): its error. -/
import Derived.Test.YtkhfbleldchnpaaKit2
import Derived.Test.YtkhfbleldchnpaaHostWord
namespace Go.Proofs.Ytkhfbleldchnpaa
open Go.RowKit
set_option linter.unusedVariables false
set_option maxRecDepth 100000

abbrev RC := Int × Int × Bool
/-- the cells of a ring's row -/
def rcells (l : List RC) : List Value := l.flatMap fun c => [.int .u64 c.1, .int .i64 c.2.1, .bool c.2.2]
theorem rcells_length (l : List RC) : (rcells l).length = l.length * 3 := by
  induction l with
  | nil => rfl
  | cons p l ih => simp only [rcells, List.flatMap_cons, List.length_append, List.length_cons, List.length_nil] at ih ⊢; omega
theorem rcells_get (l : List RC) : ∀ (k : Nat) (h : k < l.length), (rcells l)[k * 3]? = some (.int .u64 l[k].1) ∧ (rcells l)[k * 3 + 1]? = some (.int .i64 l[k].2.1) ∧ (rcells l)[k * 3 + 2]? = some (.bool l[k].2.2) := by
  induction l with
  | nil => intro k h; exact absurd h (Nat.not_lt_zero _)
  | cons p l ih =>
    intro k h
    cases k with
    | zero => exact ⟨rfl, rfl, rfl⟩
    | succ k =>
      have := ih k (by simpa using h)
      have e : rcells (p :: l) = .int .u64 p.1 :: .int .i64 p.2.1 :: .bool p.2.2 :: rcells l := rfl
      rw [e, show (k + 1) * 3 = k * 3 + 3 by omega]
      exact this
theorem Reads.rcell {w : World} {a : Option Addr} {n cap : Nat} {l : List RC} (h : Reads w 3 (.slice a n cap) n (rcells l)) (k : Nat) (hk : k < l.length) :
    ∃ b off, a = some ⟨b, off, none⟩ ∧ b < w.heap.size ∧ w.cell? ⟨b, off + k * 3, none⟩ = some (.int .u64 l[k].1) ∧ w.cell? ⟨b, off + k * 3 + 1, none⟩ = some (.int .i64 l[k].2.1) ∧ w.cell? ⟨b, off + k * 3 + 2, none⟩ = some (.bool l[k].2.2) := by
  obtain ⟨h1, a', cap', h2, h3, h4, h5⟩ := h
  rw [rcells_length] at h1
  obtain ⟨b, off, e, hb, hc⟩ := h5 (by omega)
  simp only [Value.slice.injEq] at h2
  obtain ⟨rfl, -, rfl⟩ := h2
  have hp := rcells_get l k hk
  exact ⟨b, off, e, hb, hc _ _ hp.1, by rw [Nat.add_assoc]; exact hc _ _ hp.2.1, by rw [Nat.add_assoc]; exact hc _ _ hp.2.2⟩
theorem Reads.rc_open {w : World} {v : Value} {l : List RC} (h : Reads w 3 v l.length (rcells l)) : ∃ a cap, v = .slice a l.length cap ∧ l.length ≤ cap ∧ cap ≤ maxLen := by
  obtain ⟨a', cap', h2, h1, h3, h4, h5⟩ := h.open
  exact ⟨a', cap', h2, h3, h4⟩
theorem drop_cons {α : Type} (l : List α) (k : Nat) (h : k < l.length) : l.drop k = l[k] :: l.drop (k + 1) := List.drop_eq_getElem_cons h

def bitOk (b : Int) : Bool := b == 0 || b == 1
def atOk (n : Nat) (k : Int) : Bool := decide (0 ≤ k) && decide (k < (n : Int) - 1)
def linkOk (n k : Nat) (c : RC) : Bool := (c.2.2 == decide (k + 1 = n)) && bitOk c.2.1
def loopP (n : Nat) : Nat → List RC → Bool
  | _, [] => true
  | k, c :: t => linkOk n k c && loopP n (k + 1) t
def wOk (n k : Nat) (c : RC) : Bool := decide (k + 1 < n) || c.1 == 0
def loopR (n : Nat) : Nat → List RC → Bool
  | _, [] => true
  | k, c :: t => linkOk n k c && wOk n k c && loopR n (k + 1) t
def lastW (l : List RC) : Int := (l.getLast?.getD (0, 0, false)).1
def ringErr (l : List RC) (pa pb ga gb se : Int) : Int :=
  if l.length < 3 ∨ 64 < l.length then 1
  else if (loopP l.length 0 l && (bitOk pb && bitOk gb && (lastW l == 0) && atOk l.length pa && atOk l.length ga && atOk l.length se)) then 0 else 4
set_option maxHeartbeats 400000 in
theorem bitF_any (b : Int) (w : World) : Calls Try.prog 78 #[.int .i64 b] w fun e w' => e = .returned (.bool (bitOk b)) ∧ w = w' := by
  go_enter Try.func78, Try.ntmps78
  go_wp2
  all_goals go_ret
  all_goals exact ⟨by simp [bitOk, *], rfl⟩
set_option maxHeartbeats 400000 in
theorem atF_any (k : Int) (n : Nat) (p : Nat) (w : World) (hn : n ≤ 64) (hp : w.cell? ⟨p, 0, none⟩ = some (.int .i64 n)) : Calls Try.prog 79 #[.int .i64 k, .pointer (some ⟨p, 0, none⟩)] w fun e w' => e = .returned (.bool (atOk n k)) ∧ w = w' := by
  go_enter Try.func79, Try.ntmps79
  go_wp2
  all_goals go_ret
  all_goals exact ⟨by simp [atOk, *] <;> omega, rfl⟩
theorem loopP_cons (n k : Nat) (c : RC) (t : List RC) : loopP n k (c :: t) = (linkOk n k c && loopP n (k + 1) t) := rfl
set_option maxHeartbeats 2000000 in
theorem checkR_any (pa pb ga gb se : Int) (a : Option Addr) (cap : Nat) (l : List RC) (w : World) (hr : Reads w 3 (.slice a l.length cap) l.length (rcells l)) :
    Calls Try.prog 36 #[.agg #[.slice a l.length cap, .int .i64 pa, .int .i64 pb, .int .i64 ga, .int .i64 gb, .int .i64 se]] w fun r w' => r = .returned (.int .i64 (ringErr l pa pb ga gb se)) ∧ Below w.heap.size w w' := by
  obtain ⟨a', cap', e, hcm1, hcm2⟩ := hr.rc_open
  simp only [Value.slice.injEq, true_and] at e
  obtain ⟨rfl, rfl⟩ := e
  unfold maxLen at hcm2
  have hlen : l.length ≤ 9223372036854775807 := by omega
  have HR := Lib.hid hr
  clear hr hcm1 hcm2
  by_cases h1 : l.length < 3 ∨ 64 < l.length
  · have e : ringErr l pa pb ga gb se = 1 := if_pos h1
    rw [e]
    clear e
    rcases h1 with h1 | h1
    all_goals
      go_enter Try.func36, Try.ntmps36
      go_wp2
      go_ret
      exact ⟨rfl, ((Below.refl _ _).alloc (Nat.le_refl _) _).alloc (by simp) _⟩
  · have e : ringErr l pa pb ga gb se = if (loopP l.length 0 l && (bitOk pb && bitOk gb && (lastW l == 0) && atOk l.length pa && atOk l.length ga && atOk l.length se)) then 0 else 4 := if_neg h1
    have HE := Lib.hid e
    clear e
    have hb1 : 3 ≤ l.length := by omega
    have hb2 : l.length ≤ 64 := by omega
    generalize hn : l.length = n at *
    have HN := Lib.hid hn
    clear hn h1
    go_enter Try.func36, Try.ntmps36
    go_wp2_with fail
    go_loopw [21] (fun i wr => ∃ k : Nat, k ≤ n ∧ i = .int .i64 k ∧ Hid (loopP n 0 l = loopP n k (l.drop k)) ∧ Below (w.heap.size + 2) ((w.alloc (.cells #[.slice a n cap, .int .i64 pa, .int .i64 pb, .int .i64 ga, .int .i64 gb, .int .i64 se] 65)).alloc (.cells #[.int .i64 n] 3)) wr) (fun i _ => n - (intOf i).toNat)
    case atStart => exact ⟨0, Nat.zero_le _, rfl, Lib.hid rfl, Below.refl _ _⟩
    case round =>
      obtain ⟨k, hk, rfl, HS, hbel⟩ := hrel
      have hsz : w.heap.size + 1 < wr.heap.size := by have := hbel.size; simp at this; omega
      have hsz0 : w.heap.size < wr.heap.size := by omega
      have e0 : wr.cell? ⟨w.heap.size + 1, 0, none⟩ = some (.int .i64 n) := (hbel.cell (by simp)).trans (by simp [go_sem])
      have hB : Below w.heap.size w wr := (((Below.refl _ _).alloc (Nat.le_refl _) _).alloc (by simp) _).trans (hbel.mono (by omega))
      by_cases hlt : k < n
      · have hlt' : k < l.length := by rw [HN.out]; exact hlt
        obtain ⟨b, off, rfl, hb, hc1, hc2, hc3⟩ := Reads.rcell HR.out k hlt'
        have d1 : wr.cell? ⟨b, off + k * 3, none⟩ = some (.int .u64 l[k].1) := (hB.cell (p := ⟨b, off + k * 3, none⟩) hb).trans hc1
        have d2 : wr.cell? ⟨b, off + k * 3 + 1, none⟩ = some (.int .i64 l[k].2.1) := (hB.cell (p := ⟨b, off + k * 3 + 1, none⟩) hb).trans hc2
        have d3 : wr.cell? ⟨b, off + k * 3 + 2, none⟩ = some (.bool l[k].2.2) := (hB.cell (p := ⟨b, off + k * 3 + 2, none⟩) hb).trans hc3
        clear hc1 hc2 hc3
        have HD := Lib.hid (drop_cons l k hlt')
        generalize l[k] = p at *
        obtain ⟨x, y, z⟩ := p
        have HY := Lib.hid (bitF_any y)
        have hq : ((k : Int) == (n : Int) - 1) = decide (k + 1 = n) := by
          rw [Bool.eq_iff_iff]
          simp
          omega
        have hlk : linkOk n k (x, y, z) = ((z == decide (k + 1 = n)) && bitOk y) := rfl
        generalize decide (k + 1 = n) = q at *
        generalize bitOk y = by' at *
        have HK := Lib.hid hlk
        clear hlk
        have HNO : Hid (linkOk n k (x, y, z) = false → loopP n 0 l = false) := Lib.hid (fun h => by rw [HS.out, HD.out, loopP_cons, h]; rfl)
        have HYES : Hid (linkOk n k (x, y, z) = true → loopP n 0 l = loopP n (k + 1) (l.drop (k + 1))) := Lib.hid (fun h => by rw [HS.out, HD.out, loopP_cons, h]; rfl)
        cases hzq : (z == q) with
        | false =>
          have hzq2 : (z != q) = true := by simp [bne, hzq]
          have hr : ringErr l pa pb ga gb se = 4 := by
            rw [HE.out, HNO.out (by rw [HK.out, hzq]; rfl)]
            rfl
          have HRE := Lib.hid hr
          clear hr
          go_wp2_with fail
          go_ret
          exact ⟨ret_i HRE.out.symm, hB.alloc (by omega) _⟩
        | true =>
          have hzq2 : (z != q) = false := by simp [bne, hzq]
          cases by' with
          | false =>
            have hr : ringErr l pa pb ga gb se = 4 := by
              rw [HE.out, HNO.out (by rw [HK.out, hzq]; rfl)]
              rfl
            have HRE := Lib.hid hr
            clear hr
            go_wp2_with (go_at_call 78; with_reducible refine (HY.out _).mono ?_; rintro r w2 ⟨rfl, rfl⟩)
            go_ret
            exact ⟨ret_i HRE.out.symm, hB.alloc (by omega) _⟩
          | true =>
            have hyes := HYES.out (by rw [HK.out, hzq]; rfl)
            have HY2 := Lib.hid hyes
            clear hyes
            go_wp2_with (go_at_call 78; with_reducible refine (HY.out _).mono ?_; rintro r w2 ⟨rfl, rfl⟩)
            go_roundw
            case rel => exact ⟨k + 1, by omega, by go_num, HY2, hbel.alloc (by omega) _⟩
            case measure => simp [intOf]; omega
      · obtain rfl : k = n := by omega
        obtain ⟨j, rfl⟩ : ∃ j, k = j + 1 := ⟨k - 1, by omega⟩
        have hl1 : j < l.length := by rw [HN.out]; omega
        obtain ⟨b, off, rfl, hb, hc1, hc2, hc3⟩ := Reads.rcell HR.out j hl1
        have d1 : wr.cell? ⟨b, off + j * 3, none⟩ = some (.int .u64 l[j].1) := (hB.cell (p := ⟨b, off + j * 3, none⟩) hb).trans hc1
        clear hc1 hc2 hc3
        have e1 : wr.cell? ⟨w.heap.size, 0, none⟩ = some (.slice (some ⟨b, off, none⟩) (j + 1) cap) := (hbel.cell (by simp)).trans (by simp [go_sem])
        have e2 : wr.cell? ⟨w.heap.size, 1, none⟩ = some (.int .i64 pa) := (hbel.cell (by simp)).trans (by simp [go_sem])
        have e3 : wr.cell? ⟨w.heap.size, 2, none⟩ = some (.int .i64 pb) := (hbel.cell (by simp)).trans (by simp [go_sem])
        have e4 : wr.cell? ⟨w.heap.size, 3, none⟩ = some (.int .i64 ga) := (hbel.cell (by simp)).trans (by simp [go_sem])
        have e5 : wr.cell? ⟨w.heap.size, 4, none⟩ = some (.int .i64 gb) := (hbel.cell (by simp)).trans (by simp [go_sem])
        have e6 : wr.cell? ⟨w.heap.size, 5, none⟩ = some (.int .i64 se) := (hbel.cell (by simp)).trans (by simp [go_sem])
        have hlw : l[j].1 = lastW l := by
          unfold lastW
          rw [List.getLast?_eq_getElem?, HN.out, Nat.add_sub_cancel, List.getElem?_eq_getElem hl1]
          rfl
        rw [hlw] at d1
        have hmy : loopP (j + 1) 0 l = true := by rw [HS.out, List.drop_eq_nil_of_le (by rw [HN.out]; exact Nat.le_refl _)]; rfl
        have he := HE.out
        rw [hmy, Bool.true_and] at he
        have HPB := Lib.hid (bitF_any pb)
        have HGB := Lib.hid (bitF_any gb)
        have HPA : Hid (∀ w' : World, w'.cell? ⟨w.heap.size + 1, 0, none⟩ = some (.int .i64 ((j + 1 : Nat) : Int)) → Calls Try.prog 79 #[.int .i64 pa, .pointer (some ⟨w.heap.size + 1, 0, none⟩)] w' fun e w'' => e = .returned (.bool (atOk (j + 1) pa)) ∧ w' = w'') := fun w' h => atF_any pa (j + 1) (w.heap.size + 1) w' hb2 h
        have HGA : Hid (∀ w' : World, w'.cell? ⟨w.heap.size + 1, 0, none⟩ = some (.int .i64 ((j + 1 : Nat) : Int)) → Calls Try.prog 79 #[.int .i64 ga, .pointer (some ⟨w.heap.size + 1, 0, none⟩)] w' fun e w'' => e = .returned (.bool (atOk (j + 1) ga)) ∧ w' = w'') := fun w' h => atF_any ga (j + 1) (w.heap.size + 1) w' hb2 h
        have HSE : Hid (∀ w' : World, w'.cell? ⟨w.heap.size + 1, 0, none⟩ = some (.int .i64 ((j + 1 : Nat) : Int)) → Calls Try.prog 79 #[.int .i64 se, .pointer (some ⟨w.heap.size + 1, 0, none⟩)] w' fun e w'' => e = .returned (.bool (atOk (j + 1) se)) ∧ w' = w'') := fun w' h => atF_any se (j + 1) (w.heap.size + 1) w' hb2 h
        have HE0 := Lib.hid e0
        have hw1 : (lastW l != 0) = !(lastW l == 0) := rfl
        generalize bitOk pb = b1 at *
        generalize bitOk gb = b2 at *
        generalize (lastW l == 0) = b3 at *
        generalize lastW l = lw at *
        generalize atOk (j + 1) pa = b4 at *
        generalize atOk (j + 1) ga = b5 at *
        generalize atOk (j + 1) se = b6 at *
        clear HE HS hmy hlw
        obtain rfl | ⟨rfl, rfl | ⟨rfl, rfl | ⟨rfl, rfl | ⟨rfl, rfl | ⟨rfl, rfl | rfl⟩⟩⟩⟩⟩ : b1 = false ∨ (b1 = true ∧ (b2 = false ∨ (b2 = true ∧ (b3 = false ∨ (b3 = true ∧ (b4 = false ∨ (b4 = true ∧ (b5 = false ∨ (b5 = true ∧ (b6 = false ∨ b6 = true)))))))))) := by
          cases b1 <;> cases b2 <;> cases b3 <;> cases b4 <;> cases b5 <;> cases b6 <;> simp
        all_goals
          simp only [Bool.true_and, Bool.and_true, Bool.false_and, Bool.and_false, Bool.false_eq_true, if_false, if_true] at he
          have hw2 := hw1
          try simp only [Bool.not_true, Bool.not_false] at hw2
          have HRE := Lib.hid he
          clear he hw1
          go_wp2_with (first | (go_at_call 78; first | (with_reducible refine (HPB.out _).mono ?_; rintro r w2 ⟨rfl, rfl⟩) | (with_reducible refine (HGB.out _).mono ?_; rintro r w2 ⟨rfl, rfl⟩)) | (go_at_call 79; first | (with_reducible refine (HPA.out _ HE0.out).mono ?_; rintro r w2 ⟨rfl, rfl⟩) | (with_reducible refine (HGA.out _ HE0.out).mono ?_; rintro r w2 ⟨rfl, rfl⟩) | (with_reducible refine (HSE.out _ HE0.out).mono ?_; rintro r w2 ⟨rfl, rfl⟩)))
          go_ret
          exact ⟨ret_i HRE.out.symm, hB⟩
end Go.Proofs.Ytkhfbleldchnpaa
