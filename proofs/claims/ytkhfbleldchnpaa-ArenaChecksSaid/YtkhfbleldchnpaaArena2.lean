/- Contract: Taken (plugref); how many units are taken. -/
import Derived.Test.YtkhfbleldchnpaaArena
namespace Go.Proofs.Ytkhfbleldchnpaa
open Go.RowKit
set_option linter.unusedVariables false
set_option maxRecDepth 100000

def inP (p : Int × Int) (i : Nat) : Bool := decide (p.1 ≤ (i : Int)) && decide ((i : Int) < p.1 + p.2)
def cov (l : List (Int × Int)) (i : Nat) : Bool := l.any fun p => inP p i
/-- a row of bools, from a function -/
def boolRow (n : Nat) (f : Nat → Bool) : List Value := (List.range n).map fun i => .bool (f i)
theorem boolRow_length (n : Nat) (f : Nat → Bool) : (boolRow n f).length = n := by simp [boolRow]
theorem boolRow_set (n j : Nat) (f : Nat → Bool) : (boolRow n f).set j (.bool true) = boolRow n (fun i => f i || decide (i = j)) := by
  apply List.ext_getElem
  · simp [boolRow]
  · intro i h1 h2
    simp only [boolRow, List.getElem_set, List.getElem_map, List.getElem_range]
    by_cases h : j = i
    · subst h; simp
    · have h' : ¬ i = j := fun e => h e.symm
      simp [h, h']
theorem boolRow_get (n j : Nat) (f : Nat → Bool) (h : j < n) : (boolRow n f)[j]? = some (.bool (f j)) := by
  simp [boolRow, h]
theorem boolRow_congr {n : Nat} {f g : Nat → Bool} (h : ∀ i, i < n → f i = g i) : boolRow n f = boolRow n g := by
  unfold boolRow
  apply List.map_congr_left
  intro i hi
  rw [h i (by simpa using hi)]
theorem cov_take (l : List (Int × Int)) (k : Nat) (h : k < l.length) (i : Nat) : cov (l.take (k + 1)) i = (cov (l.take k) i || inP l[k] i) := by
  unfold cov
  rw [take_pair l k h, List.any_append]
  simp
theorem make_false (n : Nat) : (madeCells (Value.bool false).cells (n * 1)).toList = boolRow n (fun _ => false) := by
  have : (Value.bool false).cells = #[Value.bool false] := rfl
  rw [this, toList_madeCells_one]
  apply List.ext_getElem
  · simp [boolRow]
  · intro i h1 h2
    simp [boolRow]
set_option maxHeartbeats 1000000 in
theorem takenR_any (size : Int) (a : Option Addr) (cap : Nat) (l : List (Int × Int)) (hE : arErr size l = 0) (w : World) (hr : Reads w 2 (.slice a l.length cap) l.length (pairs l)) :
    Calls Try.prog 27 #[.agg #[.int .i64 size, .slice a l.length cap]] w fun r w' => ∃ v, r = .returned v ∧ w'.ownsRow w.heap.size 4 1 v size.toNat (boolRow size.toNat (cov l)) ∧ Below w.heap.size w w' := by
  obtain ⟨h1, h2, h3⟩ := arErr_ok hE
  obtain ⟨n, rfl⟩ : ∃ n : Nat, size = n := ⟨size.toNat, by omega⟩
  have hcm := hr.pairs_open
  obtain ⟨a', cap', e, hcm1, hcm2⟩ := hcm
  simp only [Value.slice.injEq, true_and] at e
  obtain ⟨rfl, rfl⟩ := e
  unfold maxLen at hcm2
  have hlen : l.length ≤ 9223372036854775807 := by omega
  have HR := Lib.hid hr
  have HE := Lib.hid h3
  clear hr hcm1 hcm2 h3 hE
  simp only [Int.toNat_natCast]
  go_enter Try.func27, Try.ntmps27
  go_wp2_with (refine wpList_makeN rfl _ _ _ rfl w.heap.size 4 (.bool false) 1 1 Try.underlying52 (by kernel_rfl) .i64 .i64 _ n rfl rfl rfl (by omega) (by unfold maxLen; omega) (by simp) ?_; intro w1 hown1 hb1; rw [make_false] at hown1; simp only [World.size_alloc] at hown1; have c0 : w1.cell? ⟨w.heap.size, 0, none⟩ = some (.int .i64 n) := (hb1.cell (by simp)).trans (by simp); have c1 : w1.cell? ⟨w.heap.size, 1, none⟩ = some (.slice a l.length cap) := (hb1.cell (by simp)).trans (by simp))
  have hB1 : Below (w.heap.size + 1) (w.alloc (.cells #[.int .i64 n, .slice a l.length cap] 46)) w1 := hb1.mono (by simp)
  clear hb1 c0 c1
  go_loopw [13] (fun i wr => ∃ k : Nat, k ≤ l.length ∧ i = .int .i64 k ∧ ∃ x : Int, 0 ≤ x ∧ Hid (spOk n x (l.drop k) = true) ∧ wr.ownsRow w.heap.size 4 1 (.slice (some ⟨w.heap.size + 1, 0, none⟩) n n) n (boolRow n (cov (l.take k))) ∧ Below (w.heap.size + 1) (w.alloc (.cells #[.int .i64 n, .slice a l.length cap] 46)) wr)
    (fun i _ => l.length - (intOf i).toNat)
  case atStart => exact ⟨0, Nat.zero_le _, rfl, 0, by decide, HE, hown1, hB1⟩
  case round =>
    clear hown1 hB1
    obtain ⟨k, hk, rfl, x, hx, HS, hown, hbel⟩ := hrel
    have hsz : w.heap.size < wr.heap.size := by have := hbel.size; simp at this; omega
    by_cases hlt : k < l.length
    · obtain ⟨b, off, rfl, hb, hc1, hc2⟩ := Reads.pair HR.out k hlt
      have d1 : wr.cell? ⟨b, off + k * 2, none⟩ = some (.int .i64 l[k].1) := (hbel.cell (p := ⟨b, off + k * 2, none⟩) (by simp; omega)).trans ((World.cell?_alloc_lt _ _ _ hb).trans hc1)
      have d2 : wr.cell? ⟨b, off + k * 2 + 1, none⟩ = some (.int .i64 l[k].2) := (hbel.cell (p := ⟨b, off + k * 2 + 1, none⟩) (by simp; omega)).trans ((World.cell?_alloc_lt _ _ _ hb).trans hc2)
      clear hc1 hc2
      have HD := Lib.hid (drop_get l k hlt)
      have HC := Lib.hid (cov_take l k hlt)
      have hs2 := HS.out
      rw [HD.out] at hs2
      generalize l[k] = p at *
      obtain ⟨y, z⟩ := p
      obtain ⟨hz, hs3⟩ := spOk_cons hs2
      have HS2 := Lib.hid hs3
      clear hs2 hs3 HS HD
      obtain ⟨Y, rfl⟩ : ∃ Y : Nat, y = Y := ⟨y.toNat, by omega⟩
      obtain ⟨Z, rfl⟩ : ∃ Z : Nat, z = Z := ⟨z.toNat, by omega⟩
      have e1 : wr.cell? ⟨w.heap.size, 0, none⟩ = some (.int .i64 n) := (hbel.cell (by simp)).trans (by simp)
      go_wp2_with fail
      have hg := own_cap hown
      obtain ⟨wr0, hwr⟩ : ∃ x, x = wr := ⟨_, rfl⟩
      subst hwr
      go_loopw [19] (fun i ws => ∃ j : Nat, j ≤ Z ∧ i = .int .i64 j ∧ ws.ownsRow w.heap.size 4 1 (.slice (some ⟨w.heap.size + 1, 0, none⟩) n n) n (boolRow n (fun i => cov (l.take k) i || inP (Y, j) i)) ∧ wr0.heap.size < ws.heap.size ∧ ws.cell? ⟨wr0.heap.size, 0, none⟩ = some (.int .i64 Y) ∧ ws.cell? ⟨wr0.heap.size, 1, none⟩ = some (.int .i64 Z) ∧ Below (w.heap.size + 1) (w.alloc (.cells #[.int .i64 n, .slice (some ⟨b, off, none⟩) l.length cap] 46)) ws)
        (fun i _ => Z - (intOf i).toNat)
      case atStart =>
        refine ⟨0, Nat.zero_le _, rfl, ?_, by simp, by simp, by simp, hbel.alloc (by omega) _⟩
        have e : boolRow n (fun i => cov (l.take k) i || inP ((Y : Int), ((0 : Nat) : Int)) i) = boolRow n (cov (l.take k)) := boolRow_congr (fun i _ => by simp [inP]; omega)
        rw [e]
        exact hown.alloc _
      case round =>
        clear hown
        obtain ⟨j, hj, rfl, hown, hz1, hy, hzc, hbel2⟩ := hrel
        by_cases hlt2 : j < Z
        · have hc2 := hown.cellAt (Y + j) (by omega)
          have hc3 := hown.frozenAt (Y + j)
          rw [boolRow_get _ _ _ (by omega)] at hc2
          go_wp2_with fail
          go_roundw
          case rel =>
            have hne0 : (⟨w.heap.size + 1, Y + j, none⟩ : Addr) ≠ ⟨wr0.heap.size, 0, none⟩ := by simp <;> omega
            have hne1 : (⟨w.heap.size + 1, Y + j, none⟩ : Addr) ≠ ⟨wr0.heap.size, 1, none⟩ := by simp <;> omega
            refine ⟨j + 1, by omega, by go_num, ?_, by simp; omega, (World.cell?_setCell_other _ _ _ _ hne0).trans hy, (World.cell?_setCell_other _ _ _ _ hne1).trans hzc, hbel2.setCell (by simp) _⟩
            have h := (hown.stored (Y + j) (.bool true)).1
            rw [boolRow_set] at h
            have e : boolRow n (fun i => (cov (l.take k) i || inP ((Y : Int), (j : Int)) i) || decide (i = Y + j)) = boolRow n (fun i => cov (l.take k) i || inP ((Y : Int), ((j + 1 : Nat) : Int)) i) := boolRow_congr (fun i _ => by
              rw [Bool.or_assoc]
              congr 1
              rw [Bool.eq_iff_iff]
              simp [inP]
              omega)
            rw [e] at h
            exact h
          case measure => simp [intOf]; omega
        · obtain rfl : j = Z := by omega
          go_wp2_with fail
          go_roundw
          case rel =>
            refine ⟨k + 1, by omega, by go_num, _, by omega, HS2, ?_, hbel2⟩
            rw [boolRow_congr (fun i _ => HC.out i)]
            exact hown
          case measure => simp [intOf]; omega
    · obtain rfl : k = l.length := by omega
      rw [List.take_length] at hown
      go_wp2_with fail
      go_ret
      exact ⟨_, rfl, hown, ((Below.refl _ _).alloc (Nat.le_refl _) _).trans (hbel.mono (by omega))⟩

/-- how many of the first n -/
def cnt (f : Nat → Bool) : Nat → Nat
  | 0 => 0
  | n + 1 => cnt f n + if f n then 1 else 0
theorem cnt_or (f g : Nat → Bool) : ∀ n, (∀ i, i < n → ¬ (f i = true ∧ g i = true)) → cnt (fun i => f i || g i) n = cnt f n + cnt g n
  | 0, _ => rfl
  | n + 1, h => by
    have ih := cnt_or f g n (fun i hi => h i (by omega))
    have h0 := h n (by omega)
    simp only [cnt, ih]
    rcases Bool.eq_false_or_eq_true (f n) with hf | hf <;> rcases Bool.eq_false_or_eq_true (g n) with hg | hg <;> simp [hf, hg] at h0 ⊢ <;> omega
theorem cnt_congr (f g : Nat → Bool) : ∀ n, (∀ i, i < n → f i = g i) → cnt f n = cnt g n
  | 0, _ => rfl
  | n + 1, h => by rw [cnt, cnt, cnt_congr f g n (fun i hi => h i (by omega)), h n (by omega)]
theorem cnt_not (f : Nat → Bool) : ∀ n, cnt (fun i => !f i) n + cnt f n = n
  | 0 => rfl
  | n + 1 => by
    have ih := cnt_not f n
    simp only [cnt]
    rcases Bool.eq_false_or_eq_true (f n) with hf | hf <;> simp [hf] <;> omega
theorem cnt_in (a b : Int) (ha : 0 ≤ a) (hb : 0 ≤ b) : ∀ n : Nat, (cnt (inP (a, b)) n : Int) = if (n : Int) ≤ a then 0 else if (n : Int) ≤ a + b then n - a else b
  | 0 => by rw [if_pos (by omega)]; rfl
  | n + 1 => by
    have ih := cnt_in a b ha hb n
    have e : inP (a, b) n = (decide (a ≤ (n : Int)) && decide ((n : Int) < a + b)) := rfl
    simp only [cnt]
    rw [Int.natCast_add, ih, e]
    by_cases h1 : (n : Int) < a
    · rw [if_pos (by omega : (n : Int) ≤ a), if_pos (by omega : ((n + 1 : Nat) : Int) ≤ a)]
      simp; omega
    · by_cases h2 : (n : Int) < a + b
      · rw [if_neg (by omega : ¬ ((n + 1 : Nat) : Int) ≤ a), if_pos (by omega : ((n + 1 : Nat) : Int) ≤ a + b)]
        simp [show a ≤ (n : Int) by omega, h2]
        by_cases h3 : (n : Int) ≤ a
        · rw [if_pos h3]; omega
        · rw [if_neg h3, if_pos (by omega)]; omega
      · rw [if_neg (by omega : ¬ ((n + 1 : Nat) : Int) ≤ a), if_neg (by omega : ¬ ((n + 1 : Nat) : Int) ≤ a + b)]
        simp [h2]
        by_cases h3 : (n : Int) ≤ a
        · rw [if_pos h3]; omega
        · rw [if_neg h3]
          by_cases h4 : (n : Int) ≤ a + b
          · rw [if_pos h4]; omega
          · rw [if_neg h4]
theorem cov_low {size : Int} : ∀ {l : List (Int × Int)} {x : Int}, spOk size x l = true → ∀ i, cov l i = true → x ≤ (i : Int)
  | [], x, _, i, h => by simp [cov] at h
  | (y, z) :: t, x, hs, i, h => by
    obtain ⟨h1, h2⟩ := spOk_cons hs
    have e : cov ((y, z) :: t) i = (inP (y, z) i || cov t i) := by simp [cov]
    rw [e, Bool.or_eq_true] at h
    rcases h with h | h
    · simp [inP] at h; omega
    · have := cov_low h2 i h; omega
theorem cnt_cov (n : Nat) : ∀ (l : List (Int × Int)) (x : Int), 0 ≤ x → spOk n x l = true → (cnt (cov l) n : Int) = total l
  | [], x, _, _ => by
    have : ∀ n, cnt (cov []) n = 0 := by
      intro n
      induction n with
      | zero => rfl
      | succ n ih => simp [cnt, ih, cov]
    rw [this]; rfl
  | (y, z) :: t, x, hx, hs => by
    obtain ⟨h1, h2⟩ := spOk_cons hs
    have ih := cnt_cov n t (y + z) (by omega) h2
    have e : cnt (cov ((y, z) :: t)) n = cnt (fun i => inP (y, z) i || cov t i) n := cnt_congr _ _ n (fun i _ => by simp [cov])
    rw [e, cnt_or, Int.natCast_add, ih, cnt_in y z (by omega) (by omega)]
    · simp only [total]
      split
      · omega
      · split <;> omega
    · intro i hi ⟨ha, hb⟩
      have := cov_low h2 i hb
      simp [inP] at ha
      omega
theorem cnt_free (size : Int) (l : List (Int × Int)) (hE : arErr size l = 0) : (cnt (fun i => !cov l i) size.toNat : Int) = freeN size l := by
  obtain ⟨h1, h2, h3⟩ := arErr_ok hE
  obtain ⟨n, rfl⟩ : ∃ n : Nat, size = n := ⟨size.toNat, by omega⟩
  have a := cnt_cov n l 0 (by decide) h3
  have b := cnt_not (cov l) n
  unfold freeN
  rw [if_pos hE]
  simp only [Int.toNat_natCast]
  omega
end Go.Proofs.Ytkhfbleldchnpaa
