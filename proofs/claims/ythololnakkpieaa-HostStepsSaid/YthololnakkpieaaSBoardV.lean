/- What plugref.Board and slots.Check say of a board, in plain Lean. -/
import Derived.Test.YthololnakkpieaaFhs
import Derived.Test.YthololnakkpieaaAm26
namespace Go.Proofs.Ythololnakkpieaa
open Go Go.RowKit
open Classical
set_option linter.unusedVariables false

abbrev Slot := Int × Int × List Int × List Int
abbrev Slots := List Slot
abbrev zeroS : Slot := (0, (0, ((List.replicate 32 (0 : Int)), (List.replicate 32 (0 : Int)))))
def eqS (s t : Slot) : Bool := Sh.beq (.st (.pair (.int .i64) (.pair (.int .i64) (.pair (.arr 32 (.int .i64)) (.arr 32 (.int .i64)))))) s t
def sl (b : Slots) (i : Nat) : Slot := b.getD i zeroS
def en (s : Slot) (k : Nat) : Int := s.2.2.1.getD k 0
def mk' (s : Slot) (k : Nat) : Int := s.2.2.2.getD k 0
theorem rep0 (k : Nat) : (List.replicate 32 (0 : Int)).getD k 0 = 0 := by
  simp only [List.getD_eq_getElem?_getD, List.getElem?_replicate]
  split <;> rfl
theorem eqS_zero (s : Slot) : eqS s zeroS = true ↔ s.1 = 0 ∧ s.2.1 = 0 ∧ (∀ k, k < 32 → en s k = 0) ∧ (∀ k, k < 32 → mk' s k = 0) := by
  unfold eqS
  simp only [Sh.beq, Sh.dflt, Bool.and_eq_true, List.all_eq_true, beq_iff_eq, List.mem_range, rep0]
  exact Iff.rfl
def endOk (s : Slot) (k : Nat) : Prop := (0 ≤ en s k ∧ en s k ≤ 3) ∧ (0 ≤ mk' s k ∧ mk' s k ≤ 65535) ∧ (en s k = 0 → mk' s k = 0)
def endsOk (s : Slot) : Prop := ∀ k, k < 32 → endOk s k
def moreE (s : Slot) : Prop := ∃ k, 2 ≤ k ∧ k < 32 ∧ en s k ≠ 0
def zeroR (s : Slot) : Prop := s.2.1 = 0 ∧ (∀ k, k < 32 → en s k = 0) ∧ (∀ k, k < 32 → mk' s k = 0)
def slotG (s : Slot) : Prop := ((0 ≤ s.1 ∧ s.1 ≤ 1) ∧ zeroR s) ∨ ((2 ≤ s.1 ∧ s.1 ≤ 3) ∧ (1 ≤ s.2.1 ∧ s.2.1 ≤ 127) ∧ en s 0 = 0 ∧ en s 1 ≠ 0 ∧ endsOk s ∧ (moreE s ↔ s.1 = 3))
def apartG (b : Slots) (i : Nat) : Prop := ∀ k, 1 ≤ k → k < i → (sl b i).2.1 ≠ 0 → (sl b i).2.1 ≠ (sl b k).2.1
def boardG (b : Slots) : Prop := eqS (sl b 0) zeroS = true ∧ ∀ i, 1 ≤ i → i < 9 → slotG (sl b i) ∧ apartG b i
noncomputable def boardE (b : Slots) : Int := if boardG b then 0 else 4
theorem b16 (n : Nat) (v lo hi : Int) : F35 n v lo hi = some (decide (lo ≤ v ∧ v ≤ hi)) := by
  unfold F35
  by_cases h : lo ≤ v
  · rw [decide_eq_true h]
    simp only [cond_true, Option.some.injEq]
    rw [Bool.eq_iff_iff, decide_eq_true_iff, decide_eq_true_iff]
    exact ⟨fun e => ⟨h, e⟩, fun e => e.2⟩
  · rw [decide_eq_false h, decide_eq_false (show ¬ (lo ≤ v ∧ v ≤ hi) from fun hh => h hh.1)]; rfl
theorem b65 (n : Nat) (hn : 100 < n) (s : Slot) : F94 n s.1 s.2.1 s.2.2.1 s.2.2.2 2 31 = some (decide (moreE s)) := by
  unfold F94
  refine loopF_eq (F94_l2 n s.2.2.1 31) (fun _ => some (decide (moreE s))) (fun x => ∃ k : Nat, x = (k : Int) ∧ 2 ≤ k ∧ k ≤ 32 ∧ ∀ j, 2 ≤ j → j < k → en s j = 0) (fun x => 32 - x.toNat) ?_ n 2 ⟨2, rfl, by omega, by omega, fun j h1 h2 => by omega⟩ (by simp; omega)
  rintro kk x ⟨k, rfl, h2, hk, hall⟩ ih
  simp only [F94_l2, Int.toNat_natCast]
  by_cases hka : k < 32
  · rw [decide_eq_true (show (k : Int) ≤ 31 by omega), inb_true (show (0 : Int) ≤ k by omega) (show (k : Int) < (32 : Nat) by omega), w64 (n := (k : Int) + 1) (by omega) (by omega)]
    simp only [cond_true]
    show (bif en s k != 0 then some true else kk ((k : Int) + 1)) = _
    by_cases he : en s k = 0
    · rw [he]
      exact ih _ ⟨k + 1, by omega, by omega, by omega, fun j hj1 hj => by
        rcases Nat.lt_succ_iff_lt_or_eq.1 hj with h | h
        · exact hall j hj1 h
        · subst h; exact he⟩ (by simp only [Int.toNat_natCast]; omega)
    · rw [show (en s k != 0) = true by simpa using he, decide_eq_true (show moreE s from ⟨k, h2, hka, he⟩)]; rfl
  · rw [decide_eq_false (show ¬ (k : Int) ≤ 31 by omega), decide_eq_false (show ¬ moreE s by rintro ⟨j, h1, h3, h4⟩; exact h4 (hall j h1 (by omega)))]; rfl
def restG (s : Slot) : Prop := (∀ k, 1 ≤ k → k < 32 → endOk s k) ∧ (moreE s ↔ s.1 = 3)
theorem j12f (n : Nat) (K : Bool × Int → Option Bool) (s : Slot) (more : Bool) (k : Nat) (h1 : 1 ≤ k) (hk : k < 32) : F92_j12 n K s.2.2.1 more (k : Int) false = K (more || (decide (1 < k) && (en s k != 0)), ((k + 1 : Nat) : Int)) := by
  simp only [F92_j12, cond_false, Int.toNat_natCast]
  rw [w64 (n := (k : Int) + 1) (by omega) (by omega), inb_true (show (0 : Int) ≤ k by omega) (show (k : Int) < (32 : Nat) by omega)]
  cases more
  · by_cases h : 1 < k
    · rw [decide_eq_true (show (k : Int) > 1 by omega), decide_eq_true h]; rfl
    · rw [decide_eq_false (show ¬ (k : Int) > 1 by omega), decide_eq_false h]; rfl
  · rfl
theorem b11 (n : Nat) (hn : 100 < n) (s : Slot) (g1 : ¬ s.1 ≤ 1) : loopF (F92_l11 n s.1 s.2.2.1 s.2.2.2) n (false, 1) = some (decide (restG s)) := by
  refine loopF_eq (F92_l11 n s.1 s.2.2.1 s.2.2.2) (fun _ => some (decide (restG s))) (fun d => ∃ k : Nat, d.2 = (k : Int) ∧ 1 ≤ k ∧ k ≤ 32 ∧ (d.1 = true ↔ ∃ j, 2 ≤ j ∧ j < k ∧ en s j ≠ 0) ∧ ∀ j, 1 ≤ j → j < k → endOk s j) (fun d => 32 - d.2.toNat) ?_ n (false, 1) ⟨1, rfl, by omega, by omega, ⟨fun h => (by cases h), fun ⟨j, h1, h2, _⟩ => by omega⟩, fun j h1 h2 => by omega⟩ (by simp; omega)
  rintro kk ⟨more, x⟩ ⟨k, rfl, h1, hk, hm, hall⟩ ih
  simp only at hm
  simp only [F92_l11, Int.toNat_natCast]
  by_cases hka : k < 32
  · rw [decide_eq_true (show (k : Int) < 32 by omega), inb_true (show (0 : Int) ≤ k by omega) (show (k : Int) < (32 : Nat) by omega)]
    simp only [cond_true]
    have jt : ∀ m : Bool, F92_j12 n kk s.2.2.1 m (k : Int) true = some false := fun m => rfl
    have no : ¬ endOk s k → some false = some (decide (restG s)) := fun h => by rw [decide_eq_false (fun hh => h (hh.1 k h1 hka))]
    have yes : endOk s k → F92_j12 n kk s.2.2.1 more (k : Int) false = some (decide (restG s)) := fun h => by
      rw [j12f n kk s more k h1 hka]
      refine ih _ ⟨k + 1, rfl, by omega, by omega, ?_, fun j hj1 hj => ?_⟩ (by simp only [Int.toNat_natCast]; omega)
      · simp only [Bool.or_eq_true, Bool.and_eq_true, decide_eq_true_eq, bne_iff_ne]
        constructor
        · rintro (h2 | ⟨h2, h3⟩)
          · obtain ⟨j, a1, a2, a3⟩ := hm.1 h2
            exact ⟨j, a1, by omega, a3⟩
          · exact ⟨k, by omega, by omega, h3⟩
        · rintro ⟨j, a1, a2, a3⟩
          rcases Nat.lt_succ_iff_lt_or_eq.1 a2 with h2 | h2
          · exact .inl (hm.2 ⟨j, a1, h2, a3⟩)
          · subst h2; exact .inr ⟨by omega, a3⟩
      · rcases Nat.lt_succ_iff_lt_or_eq.1 hj with h2 | h2
        · exact hall j hj1 h2
        · subst h2; exact h
    show (bif decide (en s k < 0) then _ else bif decide (en s k > 3) then _ else bif decide (mk' s k < 0) then _ else bif decide (mk' s k > 65535) then _ else bif en s k == 0 then F92_j12 n kk s.2.2.1 more (k : Int) (mk' s k != 0) else F92_j12 n kk s.2.2.1 more (k : Int) false) = _
    by_cases q1 : en s k < 0
    · rw [decide_eq_true q1]; exact no (fun h => by unfold endOk at h; omega)
    rw [decide_eq_false q1]
    by_cases q2 : en s k > 3
    · rw [decide_eq_true q2]; exact no (fun h => by unfold endOk at h; omega)
    rw [decide_eq_false q2]
    by_cases q3 : mk' s k < 0
    · rw [decide_eq_true q3]; exact no (fun h => by unfold endOk at h; omega)
    rw [decide_eq_false q3]
    by_cases q4 : mk' s k > 65535
    · rw [decide_eq_true q4]; exact no (fun h => by unfold endOk at h; omega)
    rw [decide_eq_false q4]
    simp only [cond_false]
    by_cases q5 : en s k = 0
    · rw [show (en s k == 0) = true by simpa using q5]
      by_cases q6 : mk' s k = 0
      · rw [show (mk' s k != 0) = false by simpa using q6]
        exact yes (by unfold endOk; omega)
      · rw [show (mk' s k != 0) = true by simpa using q6]
        exact no (fun h => q6 (h.2.2 q5))
    · rw [show (en s k == 0) = false by simpa using q5]
      exact yes (by unfold endOk; omega)
  · rw [decide_eq_false (show ¬ (k : Int) < 32 by omega)]
    obtain rfl : k = 32 := by omega
    simp only [cond_false, Option.some.injEq]
    rw [Bool.eq_iff_iff, beq_iff_eq, decide_eq_true_iff]
    unfold restG moreE
    rw [← hm]
    constructor
    · intro h
      refine ⟨fun j h1 h2 => hall j h1 h2, ?_⟩
      rw [h]
      simp
    · rintro ⟨_, h⟩
      rw [Bool.eq_iff_iff, h]
      simp
theorem b111 (n : Nat) (hn : 100 < n) (s : Slot) : F92 n s.1 s.2.1 s.2.2.1 s.2.2.2 = some (decide (slotG s)) := by
  have no : ¬ slotG s → some false = some (decide (slotG s)) := fun h => by rw [decide_eq_false h]
  unfold F92
  by_cases h1 : s.1 ≤ 1
  · rw [decide_eq_true h1]
    simp only [cond_true]
    have e : Sh.beq (.st (.pair (.int .i64) (.pair (.int .i64) (.pair (.arr 32 (.int .i64)) (.arr 32 (.int .i64)))))) (s.1, (s.2.1, (s.2.2.1, s.2.2.2))) (s.1, (0, ((List.replicate 32 (0 : Int)), (List.replicate 32 (0 : Int))))) = decide (zeroR s) := by
      rw [Bool.eq_iff_iff, decide_eq_true_iff]
      simp only [Sh.beq, Sh.dflt, Bool.and_eq_true, List.all_eq_true, beq_iff_eq, List.mem_range, rep0, true_and]
      exact Iff.rfl
    rw [e]
    by_cases hz : zeroR s
    · rw [decide_eq_true hz]
      simp only [cond_true, Option.some.injEq]
      rw [Bool.eq_iff_iff, decide_eq_true_iff, decide_eq_true_iff]
      constructor
      · intro h; exact .inl ⟨⟨h, h1⟩, hz⟩
      · rintro (h | h)
        · exact h.1.1
        · omega
    · rw [decide_eq_false hz]
      refine no ?_
      rintro (h | h)
      · exact hz h.2
      · omega
  · rw [decide_eq_false h1]
    simp only [cond_false]
    have jt : F92_j7 n s.1 s.2.2.1 s.2.2.2 true = some false := rfl
    have no2 : ¬ ((2 ≤ s.1 ∧ s.1 ≤ 3) ∧ (1 ≤ s.2.1 ∧ s.2.1 ≤ 127) ∧ en s 0 = 0 ∧ en s 1 ≠ 0 ∧ endsOk s ∧ (moreE s ↔ s.1 = 3)) → F92_j7 n s.1 s.2.2.1 s.2.2.2 true = some (decide (slotG s)) := fun h => by
      rw [jt]
      refine no ?_
      rintro (h2 | h2)
      · omega
      · exact h h2
    by_cases g1 : s.1 > 3
    · rw [decide_eq_true g1]; exact no2 (fun h => by omega)
    rw [decide_eq_false g1]
    by_cases g2 : s.2.1 < 1
    · rw [decide_eq_true g2]; exact no2 (fun h => by omega)
    rw [decide_eq_false g2]
    by_cases g3 : s.2.1 > 127
    · rw [decide_eq_true g3]; exact no2 (fun h => by omega)
    rw [decide_eq_false g3]
    simp only [cond_false]
    show (bif en s 1 == 0 then _ else bif en s 0 != 0 then _ else F92_j7 n s.1 s.2.2.1 s.2.2.2 (mk' s 0 != 0)) = _
    by_cases g4 : en s 1 = 0
    · rw [show (en s 1 == 0) = true by simpa using g4]; exact no2 (fun h => h.2.2.2.1 g4)
    rw [show (en s 1 == 0) = false by simpa using g4]
    by_cases g5 : en s 0 = 0
    · rw [show (en s 0 != 0) = false by simpa using g5]
      simp only [cond_false]
      by_cases g6 : mk' s 0 = 0
      · rw [show (mk' s 0 != 0) = false by simpa using g6]
        unfold F92_j7
        simp only [cond_false]
        rw [b11 n hn s h1, Option.some.injEq, Bool.eq_iff_iff, decide_eq_true_iff, decide_eq_true_iff]
        constructor
        · rintro ⟨r1, r2⟩
          refine .inr ⟨by omega, by omega, g5, g4, fun k hk => ?_, r2⟩
          by_cases hk0 : k = 0
          · subst hk0; unfold endOk; omega
          · exact r1 k (by omega) hk
        · rintro (h | h)
          · omega
          · exact ⟨fun k _ hk => h.2.2.2.2.1 k hk, h.2.2.2.2.2⟩
      · rw [show (mk' s 0 != 0) = true by simpa using g6]; exact no2 (fun h => g6 ((h.2.2.2.2.1 0 (by omega)).2.2 g5))
    · rw [show (en s 0 != 0) = true by simpa using g5]; exact no2 (fun h => g5 h.2.2.1)
theorem b66i (n : Nat) (hn : 100 < n) (K : Int → Option Int) (b : Slots) (i : Nat) (h1 : 1 ≤ i) (hi : i < 9) : loopF (F65_l8 n K b (i : Int)) n 1 = if apartG b i then K ((i + 1 : Nat) : Int) else some 4 := by
  refine loopF_eq (F65_l8 n K b (i : Int)) (fun _ => if apartG b i then K ((i + 1 : Nat) : Int) else some 4) (fun x => ∃ k : Nat, x = (k : Int) ∧ 1 ≤ k ∧ k ≤ i ∧ ∀ j, 1 ≤ j → j < k → (sl b i).2.1 ≠ 0 → (sl b i).2.1 ≠ (sl b j).2.1) (fun x => 9 - x.toNat) ?_ n 1 ⟨1, rfl, by omega, by omega, fun j a1 a2 => by omega⟩ (by simp; omega)
  rintro kk x ⟨k, rfl, hk1, hk, hall⟩ ih
  simp only [F65_l8, Int.toNat_natCast]
  by_cases hka : k < i
  · rw [decide_eq_true (show (k : Int) < (i : Int) by omega), inb_true (show (0 : Int) ≤ k by omega) (show (k : Int) < (9 : Nat) by omega), w64 (n := (k : Int) + 1) (by omega) (by omega)]
    simp only [cond_true]
    have next : ((sl b i).2.1 ≠ 0 → (sl b i).2.1 ≠ (sl b k).2.1) → kk ((k : Int) + 1) = if apartG b i then K ((i + 1 : Nat) : Int) else some 4 := fun h => ih _ ⟨k + 1, by omega, by omega, by omega, fun j a1 a2 => by
      rcases Nat.lt_succ_iff_lt_or_eq.1 a2 with h2 | h2
      · exact hall j a1 h2
      · subst h2; exact h⟩ (by simp only [Int.toNat_natCast]; omega)
    show (bif (sl b i).2.1 != 0 then bif (sl b i).2.1 == (sl b k).2.1 then some 4 else kk ((k : Int) + 1) else kk ((k : Int) + 1)) = _
    by_cases q1 : (sl b i).2.1 = 0
    · rw [show ((sl b i).2.1 != 0) = false by simpa using q1]; exact next (fun h => absurd q1 h)
    · rw [show ((sl b i).2.1 != 0) = true by simpa using q1]
      by_cases q2 : (sl b i).2.1 = (sl b k).2.1
      · rw [show ((sl b i).2.1 == (sl b k).2.1) = true by simpa using q2, if_neg (fun h => h k hk1 hka q1 q2)]; rfl
      · rw [show ((sl b i).2.1 == (sl b k).2.1) = false by simpa using q2]; exact next (fun _ => q2)
  · rw [decide_eq_false (show ¬ (k : Int) < (i : Int) by omega), w64 (n := (i : Int) + 1) (by omega) (by omega), if_pos (show apartG b i from fun j a1 a2 => hall j a1 (by omega))]; rfl
theorem b66 (n : Nat) (hn : 100 < n) (b : Slots) : F65 n b = some (boardE b) := by
  unfold F65
  show (bif !(eqS (sl b 0) zeroS) then some 4 else loopF (F65_l7 n b) n 1) = _
  have no : ¬ boardG b → some (4 : Int) = some (boardE b) := fun h => by unfold boardE; rw [if_neg h]
  cases h0 : eqS (sl b 0) zeroS
  · exact no (fun h => by have h2 := h.1; rw [h0] at h2; cases h2)
  simp only [Bool.not_true, cond_false]
  refine loopF_eq (F65_l7 n b) (fun _ => some (boardE b)) (fun x => ∃ i : Nat, x = (i : Int) ∧ 1 ≤ i ∧ i ≤ 9 ∧ ∀ j, 1 ≤ j → j < i → slotG (sl b j) ∧ apartG b j) (fun x => 9 - x.toNat) ?_ n 1 ⟨1, rfl, by omega, by omega, fun j a1 a2 => by omega⟩ (by simp; omega)
  rintro kk x ⟨i, rfl, h1, hi, hall⟩ ih
  simp only [F65_l7, Int.toNat_natCast]
  by_cases hia : i < 9
  · rw [decide_eq_true (show (i : Int) < 9 by omega), inb_true (show (0 : Int) ≤ i by omega) (show (i : Int) < (9 : Nat) by omega)]
    simp only [cond_true]
    rw [show F92 n (b.getD i zeroS).1 (b.getD i zeroS).2.1 (b.getD i zeroS).2.2.1 (b.getD i zeroS).2.2.2 = some (decide (slotG (sl b i))) from b111 n hn (sl b i)]
    simp only [Option.bind_some]
    by_cases hs : slotG (sl b i)
    · rw [decide_eq_true hs]
      simp only [Bool.not_true, cond_false]
      rw [b66i n hn kk b i h1 hia]
      by_cases ha : apartG b i
      · rw [if_pos ha]
        exact ih _ ⟨i + 1, rfl, by omega, by omega, fun j a1 a2 => by
          rcases Nat.lt_succ_iff_lt_or_eq.1 a2 with h2 | h2
          · exact hall j a1 h2
          · subst h2; exact ⟨hs, ha⟩⟩ (by simp only [Int.toNat_natCast]; omega)
      · rw [if_neg ha]; exact no (fun h => ha (h.2 i h1 hia).2)
    · rw [decide_eq_false hs]; exact no (fun h => hs (h.2 i h1 hia).1)
  · rw [decide_eq_false (show ¬ (i : Int) < 9 by omega)]
    unfold boardE
    rw [if_pos (show boardG b from ⟨h0, fun j a1 a2 => hall j a1 (by omega)⟩)]; rfl
theorem take_sl (b : Slots) (i k : Nat) (h : k < i) : (b.take i).getD k zeroS = sl b k := by
  unfold sl
  rw [List.getD_eq_getElem?_getD, List.getElem?_take_of_lt h, ← List.getD_eq_getElem?_getD]
theorem c30 (n : Nat) (hn : 100 < n) (K : Int → Option Int) (b : Slots) (hb : b.length = 9) (i : Nat) (hi : i < 9) : loopF (F70_l30 n K b (i : Int)) n 0 = if ∃ k, k < i ∧ (sl b k).2.1 = (sl b i).2.1 then some 4 else K ((i + 1 : Nat) : Int) := by
  have hl : (b.take i).length = i := by rw [List.length_take]; omega
  refine loopF_eq (F70_l30 n K b (i : Int)) (fun _ => if ∃ k, k < i ∧ (sl b k).2.1 = (sl b i).2.1 then some 4 else K ((i + 1 : Nat) : Int)) (fun x => ∃ k : Nat, x = (k : Int) ∧ k ≤ i ∧ ∀ j, j < k → (sl b j).2.1 ≠ (sl b i).2.1) (fun x => 9 - x.toNat) ?_ n 0 ⟨0, rfl, by omega, fun j a2 => by omega⟩ (by simp; omega)
  rintro kk x ⟨k, rfl, hk, hall⟩ ih
  simp only [F70_l30, Int.toNat_natCast, hl]
  by_cases hka : k < i
  · rw [decide_eq_true (show (k : Int) < (i : Int) by omega), inb_true (show (0 : Int) ≤ k by omega) (show (k : Int) < (i : Nat) by omega), w64 (n := (k : Int) + 1) (by omega) (by omega), take_sl b i k hka]
    simp only [cond_true]
    show (bif (sl b k).2.1 == (sl b i).2.1 then some 4 else kk ((k : Int) + 1)) = _
    by_cases q : (sl b k).2.1 = (sl b i).2.1
    · rw [show ((sl b k).2.1 == (sl b i).2.1) = true by simpa using q, if_pos ⟨k, hka, q⟩]; rfl
    · rw [show ((sl b k).2.1 == (sl b i).2.1) = false by simpa using q]
      exact ih _ ⟨k + 1, by omega, by omega, fun j a2 => by
        rcases Nat.lt_succ_iff_lt_or_eq.1 a2 with h2 | h2
        · exact hall j h2
        · subst h2; exact q⟩ (by simp only [Int.toNat_natCast]; omega)
  · rw [decide_eq_false (show ¬ (k : Int) < (i : Int) by omega), w64 (n := (i : Int) + 1) (by omega) (by omega), if_neg (by rintro ⟨j, a1, a2⟩; exact hall j (by omega) a2)]; rfl
theorem c29 (n : Nat) (hn : 100 < n) (K : Int → Option Int) (b : Slots) (hb : b.length = 9) (i : Nat) (hi : i < 9) : loopF (F70_l29 n K b (i : Int)) n 0 = if endsOk (sl b i) then (if ∃ k, k < i ∧ (sl b k).2.1 = (sl b i).2.1 then some 4 else K ((i + 1 : Nat) : Int)) else some 4 := by
  refine loopF_eq (F70_l29 n K b (i : Int)) (fun _ => if endsOk (sl b i) then (if ∃ k, k < i ∧ (sl b k).2.1 = (sl b i).2.1 then some 4 else K ((i + 1 : Nat) : Int)) else some 4) (fun x => ∃ k : Nat, x = (k : Int) ∧ k ≤ 32 ∧ ∀ j, j < k → endOk (sl b i) j) (fun x => 32 - x.toNat) ?_ n 0 ⟨0, rfl, by omega, fun j a2 => by omega⟩ (by simp; omega)
  rintro kk x ⟨k, rfl, hk, hall⟩ ih
  simp only [F70_l29, Int.toNat_natCast, b16, Option.bind_some]
  by_cases hka : k < 32
  · rw [decide_eq_true (show (k : Int) < 32 by omega), inb_true (show (0 : Int) ≤ k by omega) (show (k : Int) < (32 : Nat) by omega), w64 (n := (k : Int) + 1) (by omega) (by omega)]
    simp only [cond_true]
    have no : ¬ endOk (sl b i) k → some (4 : Int) = if endsOk (sl b i) then (if ∃ k, k < i ∧ (sl b k).2.1 = (sl b i).2.1 then some 4 else K ((i + 1 : Nat) : Int)) else some 4 := fun h => by rw [if_neg (fun hh => h (hh k hka))]
    have yes : endOk (sl b i) k → kk ((k : Int) + 1) = _ := fun h => ih ((k : Int) + 1) ⟨k + 1, by omega, by omega, fun j a2 => by
      rcases Nat.lt_succ_iff_lt_or_eq.1 a2 with h2 | h2
      · exact hall j h2
      · subst h2; exact h⟩ (by simp only [Int.toNat_natCast]; omega)
    show (bif !decide (0 ≤ en (sl b i) k ∧ en (sl b i) k ≤ 3) then some 4 else bif !decide (0 ≤ mk' (sl b i) k ∧ mk' (sl b i) k ≤ 65535) then some 4 else bif en (sl b i) k == 0 then bif mk' (sl b i) k != 0 then some 4 else kk ((k : Int) + 1) else kk ((k : Int) + 1)) = _
    by_cases q1 : 0 ≤ en (sl b i) k ∧ en (sl b i) k ≤ 3
    · rw [decide_eq_true q1]
      by_cases q2 : 0 ≤ mk' (sl b i) k ∧ mk' (sl b i) k ≤ 65535
      · rw [decide_eq_true q2]
        simp only [Bool.not_true, cond_false]
        by_cases q5 : en (sl b i) k = 0
        · rw [show (en (sl b i) k == 0) = true by simpa using q5]
          by_cases q6 : mk' (sl b i) k = 0
          · rw [show (mk' (sl b i) k != 0) = false by simpa using q6]
            exact yes ⟨q1, q2, fun _ => q6⟩
          · rw [show (mk' (sl b i) k != 0) = true by simpa using q6]
            exact no (fun h => q6 (h.2.2 q5))
        · rw [show (en (sl b i) k == 0) = false by simpa using q5]
          exact yes ⟨q1, q2, fun h => absurd h q5⟩
      · rw [decide_eq_false q2]; exact no (fun h => q2 h.2.1)
    · rw [decide_eq_false q1]; exact no (fun h => q1 h.1)
  · rw [decide_eq_false (show ¬ (k : Int) < 32 by omega), if_pos (show endsOk (sl b i) from fun j hj => hall j (by omega)), show subB b.length none (some (i : Int)) = true by simp [subB]; omega]
    simp only [cond_false, cond_true]
    exact c30 n hn K b hb i hi
theorem c26 (n : Nat) (hn : 100 < n) (K : Int → Option Int) (b : Slots) (hb : b.length = 9) (i : Nat) (hi : i < 9) (h0 : 0 ≤ (sl b i).1) (h3 : (sl b i).1 ≤ 3) :
    F70_j26 n K b (i : Int) false = if slotG (sl b i) then (if 2 ≤ (sl b i).1 ∧ ∃ k, k < i ∧ (sl b k).2.1 = (sl b i).2.1 then some 4 else K ((i + 1 : Nat) : Int)) else some 4 := by
  unfold F70_j26
  simp only [cond_false, Int.toNat_natCast, b16]
  rw [w64 (n := (i : Int) + 1) (by omega) (by omega)]
  show (bif decide ((sl b i).1 < 2) then (bif !(eqS (0, ((sl b i).2.1, ((sl b i).2.2.1, (sl b i).2.2.2))) zeroS) then some 4 else K ((i : Int) + 1)) else ((some (decide (1 ≤ (sl b i).2.1 ∧ (sl b i).2.1 ≤ 127))).bind fun y_4 => bif !y_4 then F70_j27 n K b (i : Int) true else bif en (sl b i) 0 != 0 then F70_j27 n K b (i : Int) true else bif en (sl b i) 1 == 0 then F70_j27 n K b (i : Int) true else ((F94 n (sl b i).1 (sl b i).2.1 (sl b i).2.2.1 (sl b i).2.2.2 2 31).bind fun y_5 => F70_j27 n K b (i : Int) (!(y_5 == ((sl b i).1 == 3)))))) = _
  by_cases h2 : (sl b i).1 < 2
  · rw [decide_eq_true h2]
    simp only [cond_true]
    have hz : eqS (0, ((sl b i).2.1, ((sl b i).2.2.1, (sl b i).2.2.2))) zeroS = true ↔ zeroR (sl b i) := by
      rw [eqS_zero]
      exact ⟨fun h => h.2, fun h => ⟨rfl, h⟩⟩
    by_cases q : zeroR (sl b i)
    · rw [hz.2 q, if_pos (show slotG (sl b i) from .inl ⟨⟨h0, by omega⟩, q⟩), if_neg (fun h => by omega)]; rfl
    · rw [if_neg (show ¬ slotG (sl b i) by rintro (h | h); exact q h.2; omega), show eqS (0, ((sl b i).2.1, ((sl b i).2.2.1, (sl b i).2.2.2))) zeroS = false from Bool.eq_false_iff.2 (fun h => q (hz.1 h))]; rfl
  · rw [decide_eq_false h2]
    simp only [cond_false, Option.bind_some]
    have jt : F70_j27 n K b (i : Int) true = some 4 := rfl
    have no : ¬ ((2 ≤ (sl b i).1 ∧ (sl b i).1 ≤ 3) ∧ (1 ≤ (sl b i).2.1 ∧ (sl b i).2.1 ≤ 127) ∧ en (sl b i) 0 = 0 ∧ en (sl b i) 1 ≠ 0 ∧ endsOk (sl b i) ∧ (moreE (sl b i) ↔ (sl b i).1 = 3)) → some (4 : Int) = if slotG (sl b i) then (if 2 ≤ (sl b i).1 ∧ ∃ k, k < i ∧ (sl b k).2.1 = (sl b i).2.1 then some 4 else K ((i + 1 : Nat) : Int)) else some 4 := fun h => by
      rw [if_neg]
      rintro (hh | hh)
      · omega
      · exact h hh
    by_cases g2 : 1 ≤ (sl b i).2.1 ∧ (sl b i).2.1 ≤ 127
    · rw [decide_eq_true g2]
      simp only [Bool.not_true, cond_false]
      by_cases g5 : en (sl b i) 0 = 0
      · rw [show (en (sl b i) 0 != 0) = false by simpa using g5]
        by_cases g4 : en (sl b i) 1 = 0
        · rw [show (en (sl b i) 1 == 0) = true by simpa using g4]; exact no (fun h => h.2.2.2.1 g4)
        · rw [show (en (sl b i) 1 == 0) = false by simpa using g4, b65 n hn]
          simp only [cond_false, Option.bind_some]
          by_cases g7 : moreE (sl b i) ↔ (sl b i).1 = 3
          · have e : (!(decide (moreE (sl b i)) == ((sl b i).1 == 3))) = false := by
              rw [Bool.not_eq_false', beq_iff_eq, Bool.eq_iff_iff, decide_eq_true_iff, beq_iff_eq]; exact g7
            rw [e]
            unfold F70_j27
            simp only [cond_false]
            rw [c29 n hn K b hb i hi]
            by_cases g8 : endsOk (sl b i)
            · rw [if_pos g8, if_pos (show slotG (sl b i) from .inr ⟨by omega, g2, g5, g4, g8, g7⟩)]
              by_cases g9 : ∃ k, k < i ∧ (sl b k).2.1 = (sl b i).2.1
              · rw [if_pos g9, if_pos ⟨by omega, g9⟩]
              · rw [if_neg g9, if_neg (fun h => g9 h.2)]
            · rw [if_neg g8]; exact no (fun h => g8 h.2.2.2.2.1)
          · have e : (!(decide (moreE (sl b i)) == ((sl b i).1 == 3))) = true := by
              rw [Bool.not_eq_true', beq_eq_false_iff_ne]
              intro hh
              rw [Bool.eq_iff_iff, decide_eq_true_iff, beq_iff_eq] at hh
              exact g7 hh
            rw [e]; exact no (fun h => g7 h.2.2.2.2.2)
      · rw [show (en (sl b i) 0 != 0) = true by simpa using g5]; exact no (fun h => g5 h.2.2.1)
    · rw [decide_eq_false g2]; exact no (fun h => g2 h.2.1)
theorem b15 (n : Nat) (hn : 100 < n) (b : Slots) (hb : b.length = 9) : F70 n b = some (boardE b) := by
  unfold F70
  have no : ¬ boardG b → some (4 : Int) = some (boardE b) := fun h => by unfold boardE; rw [if_neg h]
  refine loopF_eq (F70_l25 n b) (fun _ => some (boardE b)) (fun x => ∃ i : Nat, x = (i : Int) ∧ i ≤ 9 ∧ (0 < i → eqS (sl b 0) zeroS = true) ∧ ∀ j, 1 ≤ j → j < i → slotG (sl b j) ∧ apartG b j) (fun x => 9 - x.toNat) ?_ n 0 ⟨0, rfl, by omega, fun h => by omega, fun j a1 a2 => by omega⟩ (by simp; omega)
  rintro kk x ⟨i, rfl, hi, hz, hall⟩ ih
  simp only [F70_l25, Int.toNat_natCast, b16, Option.bind_some]
  by_cases hia : i < 9
  · rw [decide_eq_true (show (i : Int) < 9 by omega), inb_true (show (0 : Int) ≤ i by omega) (show (i : Int) < (9 : Nat) by omega)]
    simp only [cond_true]
    show (bif (i : Int) == 0 then bif !(eqS (sl b i) zeroS) then F70_j26 n kk b (i : Int) true else F70_j26 n kk b (i : Int) (!decide (0 ≤ (sl b i).1 ∧ (sl b i).1 ≤ 3)) else F70_j26 n kk b (i : Int) (!decide (0 ≤ (sl b i).1 ∧ (sl b i).1 ≤ 3))) = _
    have jt : F70_j26 n kk b (i : Int) true = some 4 := rfl
    by_cases h0 : i = 0
    · subst h0
      rw [show (((0 : Nat) : Int) == 0) = true from rfl]
      cases hq : eqS (sl b 0) zeroS
      · exact no (fun h => by have h2 := h.1; rw [hq] at h2; cases h2)
      · obtain ⟨z1, z2⟩ := (eqS_zero _).1 hq
        simp only [Bool.not_true, cond_false, cond_true]
        rw [decide_eq_true (show 0 ≤ (sl b 0).1 ∧ (sl b 0).1 ≤ 3 by omega)]
        simp only [Bool.not_true]
        rw [c26 n hn kk b hb 0 hia (by omega) (by omega), if_pos (show slotG (sl b 0) from .inl ⟨by omega, z2⟩), if_neg (fun h => by omega)]
        exact ih _ ⟨1, rfl, by omega, fun _ => hq, fun j a1 a2 => by omega⟩ (by simp)
    · rw [show ((i : Int) == 0) = false by rw [beq_eq_false_iff_ne]; omega]
      simp only [cond_false]
      by_cases hst : 0 ≤ (sl b i).1 ∧ (sl b i).1 ≤ 3
      · rw [decide_eq_true hst]
        simp only [Bool.not_true]
        rw [c26 n hn kk b hb i hia hst.1 hst.2]
        by_cases hs : slotG (sl b i)
        · rw [if_pos hs]
          by_cases hc : 2 ≤ (sl b i).1 ∧ ∃ k, k < i ∧ (sl b k).2.1 = (sl b i).2.1
          · rw [if_pos hc]
            obtain ⟨c1, k, c2, c3⟩ := hc
            refine no (fun h => ?_)
            have hpos : 1 ≤ (sl b i).2.1 := by
              rcases hs with hs | hs
              · omega
              · exact hs.2.1.1
            by_cases hk : k = 0
            · subst hk
              have := ((eqS_zero _).1 (hz (by omega))).2.1
              omega
            · exact (h.2 i (by omega) hia).2 k (by omega) c2 (by omega) c3.symm
          · rw [if_neg hc]
            refine ih _ ⟨i + 1, rfl, by omega, fun _ => hz (by omega), fun j a1 a2 => ?_⟩ (by simp only [Int.toNat_natCast]; omega)
            rcases Nat.lt_succ_iff_lt_or_eq.1 a2 with h2 | h2
            · exact hall j a1 h2
            · subst h2
              refine ⟨hs, fun k k1 k2 k3 k4 => ?_⟩
              rcases hs with hs | hs
              · exact k3 hs.2.1
              · exact hc ⟨hs.1.1, k, k2, k4.symm⟩
        · rw [if_neg hs]; exact no (fun h => hs (h.2 i (by omega) hia).1)
      · rw [decide_eq_false hst]
        refine no (fun h => ?_)
        rcases (h.2 i (by omega) hia).1 with hs | hs <;> omega
  · rw [decide_eq_false (show ¬ (i : Int) < 9 by omega)]
    unfold boardE
    rw [if_pos (show boardG b from ⟨hz (by omega), fun j a1 a2 => hall j a1 (by omega)⟩)]; rfl
end Go.Proofs.Ythololnakkpieaa
