/- RouteShows: what a right path is, in plain Lean. -/
import Derived.Test.YtgjklpadcmedkaaDoorFrt
import Derived.Test.YtgjklpadcmedkaaDoorAm26
import Derived.Test.YtgjklpadcmedkaaDoorAm23
namespace Go.Proofs.YtgjklpadcmedkaaDoor
open Go Go.RowKit
set_option linter.unusedVariables false

def okP (l : List Int) : Prop := ∀ j, j < l.length → 1 ≤ l.getD j 0 ∧ l.getD j 0 ≤ 15
instance (l : List Int) : Decidable (okP l) := inferInstanceAs (Decidable (∀ j, j < l.length → 1 ≤ l.getD j 0 ∧ l.getD j 0 ≤ 15))
def pathE (l : List Int) : Int := if l.length = 0 then 1 else if 6 < l.length then 2 else if okP l then 0 else 1
theorem rp35 (n : Nat) (l : List Int) (hn : 10 < n) : F9 n l = some (pathE l) := by
  unfold F9 pathE
  by_cases h0 : l.length = 0
  · rw [if_pos h0, show (((l.length : Nat) : Int) == 0) = true by simp [h0]]; rfl
  rw [if_neg h0, show (((l.length : Nat) : Int) == 0) = false by simpa using h0]
  by_cases h6 : 6 < l.length
  · rw [if_pos h6, decide_eq_true (show ((l.length : Nat) : Int) > 6 by omega)]; rfl
  rw [if_neg h6, decide_eq_false (show ¬ ((l.length : Nat) : Int) > 6 by omega)]
  simp only [cond_false]
  obtain ⟨r, e, h⟩ := loopF_post (F9_l2 n l) (fun x => ∃ k : Nat, x = (k : Int) ∧ k ≤ l.length ∧ ∀ j, j < k → 1 ≤ l.getD j 0 ∧ l.getD j 0 ≤ 15) (fun _ r => r = if okP l then 0 else 1) (fun x => l.length - x.toNat) (by
    rintro kk x ⟨k, rfl, hk, hall⟩ ih
    simp only [F9_l2, Int.toNat_natCast]
    by_cases hka : k < l.length
    · rw [decide_eq_true (show (k : Int) < (l.length : Int) by omega), inb_true (show (0 : Int) ≤ k by omega) (show (k : Int) < l.length by omega)]
      simp only [cond_true]
      by_cases h1 : l.getD k 0 < 1
      · rw [decide_eq_true h1]
        exact ⟨_, rfl, by rw [if_neg (fun h => by have := h k hka; omega)]⟩
      · rw [decide_eq_false h1]
        by_cases h2 : l.getD k 0 > 15
        · rw [decide_eq_true h2]
          exact ⟨_, rfl, by rw [if_neg (fun h => by have := h k hka; omega)]⟩
        · rw [decide_eq_false h2, w64 (n := (k : Int) + 1) (by omega) (by omega)]
          exact ih ((k : Int) + 1) ⟨k + 1, by omega, by omega, fun j hj => by
            rcases Nat.lt_succ_iff_lt_or_eq.1 hj with h | h
            · exact hall j h
            · rw [h]; omega⟩ (by simp only [Int.toNat_natCast]; omega)
    · rw [decide_eq_false (show ¬ (k : Int) < (l.length : Int) by omega)]
      exact ⟨_, rfl, by rw [if_pos (show okP l from fun j hj => hall j (by omega))]⟩) n 0 ⟨0, rfl, by omega, fun j hj => by omega⟩ (by simp; omega)
  rw [e, h]
theorem rp86 (n : Nat) (l : List Int) (hn : 10 < n) (h0 : l.length ≠ 0) (h6 : l.length ≤ 6) : ∃ m, F21 n l = some m ∧ (m < 1 ↔ ∃ j, j < l.length ∧ l.getD j 0 < 1) := by
  unfold F21 F21_j3
  rw [decide_eq_false (show ¬ ((l.length : Nat) : Int) < 1 by omega), inb_true (by omega) (show (0 : Int) < l.length by omega)]
  simp only [cond_false, cond_true]
  exact loopF_post (F21_l4 n l) (fun d => ∃ k : Nat, d.2 = (k : Int) ∧ k ≤ l.length ∧ (d.1 < 1 ↔ ∃ j, j < k ∧ l.getD j 0 < 1)) (fun _ m => m < 1 ↔ ∃ j, j < l.length ∧ l.getD j 0 < 1) (fun d => l.length - d.2.toNat) (by
    rintro kk ⟨m, x⟩ ⟨k, e, hk, hm⟩ ih
    simp only at e hm
    subst e
    simp only [F21_l4, Int.toNat_natCast]
    by_cases hka : k < l.length
    · rw [decide_eq_true (show (k : Int) < (l.length : Int) by omega), inb_true (show (0 : Int) ≤ k by omega) (show (k : Int) < l.length by omega), w64 (n := (k : Int) + 1) (by omega) (by omega)]
      simp only [cond_true]
      refine ih (_, (k : Int) + 1) ⟨k + 1, by simp, by omega, ?_⟩ (by simp only [Int.toNat_natCast]; omega)
      simp only
      constructor
      · intro h
        split at h
        · exact ⟨k, by omega, h⟩
        · obtain ⟨j, hj, hl⟩ := hm.1 h
          exact ⟨j, by omega, hl⟩
      · rintro ⟨j, hj, hl⟩
        rcases Nat.lt_succ_iff_lt_or_eq.1 hj with h | h
        · have := hm.2 ⟨j, h, hl⟩
          split <;> omega
        · subst h
          split <;> omega
    · rw [decide_eq_false (show ¬ (k : Int) < (l.length : Int) by omega)]
      refine ⟨m, rfl, ?_⟩
      rw [hm, show k = l.length by omega]) n (l.getD 0 0, 1) ⟨1, rfl, by omega, by
        constructor
        · intro h; exact ⟨0, by omega, h⟩
        · rintro ⟨j, hj, hl⟩
          rw [show j = 0 by omega] at hl; exact hl⟩ (by simp; omega)
theorem rp87 (n : Nat) (l : List Int) (hn : 10 < n) (h0 : l.length ≠ 0) (h6 : l.length ≤ 6) : ∃ m, F22 n l = some m ∧ (m > 15 ↔ ∃ j, j < l.length ∧ l.getD j 0 > 15) := by
  unfold F22 F22_j3
  rw [decide_eq_false (show ¬ ((l.length : Nat) : Int) < 1 by omega), inb_true (by omega) (show (0 : Int) < l.length by omega)]
  simp only [cond_false, cond_true]
  exact loopF_post (F22_l4 n l) (fun d => ∃ k : Nat, d.2 = (k : Int) ∧ k ≤ l.length ∧ (d.1 > 15 ↔ ∃ j, j < k ∧ l.getD j 0 > 15)) (fun _ m => m > 15 ↔ ∃ j, j < l.length ∧ l.getD j 0 > 15) (fun d => l.length - d.2.toNat) (by
    rintro kk ⟨m, x⟩ ⟨k, e, hk, hm⟩ ih
    simp only at e hm
    subst e
    simp only [F22_l4, Int.toNat_natCast]
    by_cases hka : k < l.length
    · rw [decide_eq_true (show (k : Int) < (l.length : Int) by omega), inb_true (show (0 : Int) ≤ k by omega) (show (k : Int) < l.length by omega), w64 (n := (k : Int) + 1) (by omega) (by omega)]
      simp only [cond_true]
      refine ih (_, (k : Int) + 1) ⟨k + 1, by simp, by omega, ?_⟩ (by simp only [Int.toNat_natCast]; omega)
      simp only
      constructor
      · intro h
        split at h
        · exact ⟨k, by omega, h⟩
        · obtain ⟨j, hj, hl⟩ := hm.1 h
          exact ⟨j, by omega, hl⟩
      · rintro ⟨j, hj, hl⟩
        rcases Nat.lt_succ_iff_lt_or_eq.1 hj with h | h
        · have := hm.2 ⟨j, h, hl⟩
          split <;> omega
        · subst h
          split <;> omega
    · rw [decide_eq_false (show ¬ (k : Int) < (l.length : Int) by omega)]
      refine ⟨m, rfl, ?_⟩
      rw [hm, show k = l.length by omega]) n (l.getD 0 0, 1) ⟨1, rfl, by omega, by
        constructor
        · intro h; exact ⟨0, by omega, h⟩
        · rintro ⟨j, hj, hl⟩
          rw [show j = 0 by omega] at hl; exact hl⟩ (by simp; omega)
theorem rp36 (n : Nat) (l : List Int) (hn : 10 < n) : F12 n l = some (pathE l) := by
  unfold F12 pathE
  by_cases h6 : 6 < l.length
  · rw [decide_eq_true (show ((l.length : Nat) : Int) > 6 by omega), if_neg (by omega), if_pos h6]; rfl
  rw [decide_eq_false (show ¬ ((l.length : Nat) : Int) > 6 by omega), if_neg h6]
  by_cases h0 : l.length = 0
  · rw [if_pos h0, show (((l.length : Nat) : Int) == 0) = true by simp [h0]]; rfl
  rw [if_neg h0, show (((l.length : Nat) : Int) == 0) = false by simpa using h0]
  obtain ⟨m, e1, h1⟩ := rp86 n l hn h0 (by omega)
  obtain ⟨M, e2, h2⟩ := rp87 n l hn h0 (by omega)
  rw [e1, e2]
  simp only [cond_false, Option.bind_some]
  by_cases hm : m < 1
  · rw [decide_eq_true hm]
    obtain ⟨j, hj, hl⟩ := h1.1 hm
    rw [if_neg (fun h => by have := h j hj; omega)]; rfl
  · rw [decide_eq_false hm]
    by_cases hM : M > 15
    · rw [decide_eq_true hM]
      obtain ⟨j, hj, hl⟩ := h2.1 hM
      rw [if_neg (fun h => by have := h j hj; omega)]; rfl
    · rw [decide_eq_false hM, if_pos]
      · rfl
      · intro j hj
        refine ⟨?_, ?_⟩
        · have : ¬ l.getD j 0 < 1 := fun h => hm (h1.2 ⟨j, hj, h⟩)
          omega
        · have : ¬ l.getD j 0 > 15 := fun h => hM (h2.2 ⟨j, hj, h⟩)
          omega
theorem path0 {l : List Int} (h : pathE l = 0) : l.length ≠ 0 ∧ l.length ≤ 6 ∧ okP l := by
  unfold pathE at h
  by_cases h0 : l.length = 0
  · rw [if_pos h0] at h; omega
  · rw [if_neg h0] at h
    by_cases h6 : 6 < l.length
    · rw [if_pos h6] at h; omega
    · rw [if_neg h6] at h
      by_cases hk : okP l
      · exact ⟨h0, by omega, hk⟩
      · rw [if_neg hk] at h; omega
/-- slices.Equal of numbers -/
theorem getD_ext {a b : List Int} (hl : a.length = b.length) (h : ∀ k, k < a.length → a.getD k 0 = b.getD k 0) : a = b := by
  apply List.ext_getElem hl
  intro i h1 h2
  have := h i h1
  simpa [List.getD_eq_getElem?_getD, List.getElem?_eq_getElem h1, List.getElem?_eq_getElem h2] using this
theorem rf25 (n : Nat) (a b : List Int) (ha : a.length ≤ 1000) (hn : 1001 < n) : F8 n a b = some (decide (a = b)) := by
  unfold F8
  by_cases hl : a.length = b.length
  · rw [show (((a.length : Nat) : Int) != ((b.length : Nat) : Int)) = false by simp [hl]]
    simp only [cond_false]
    obtain ⟨r, e, h⟩ := loopF_post (F8_l2 n a b) (fun x => ∃ k : Nat, x = (k : Int) ∧ k ≤ a.length ∧ ∀ j, j < k → a.getD j 0 = b.getD j 0) (fun _ r => r = decide (a = b)) (fun x => a.length - x.toNat) (by
      rintro kk x ⟨k, rfl, hk, hall⟩ ih
      simp only [F8_l2, Int.toNat_natCast]
      by_cases hka : k < a.length
      · rw [decide_eq_true (show (k : Int) < (a.length : Int) by omega), inb_true (show (0 : Int) ≤ k by omega) (show (k : Int) < a.length by omega), inb_true (show (0 : Int) ≤ k by omega) (show (k : Int) < b.length by omega)]
        simp only [cond_true]
        by_cases hq : a.getD k 0 = b.getD k 0
        · rw [hq, bne_self_eq_false, w64 (n := (k : Int) + 1) (by omega) (by omega)]
          exact ih ((k : Int) + 1) ⟨k + 1, by omega, by omega, fun j hj => by
            rcases Nat.lt_succ_iff_lt_or_eq.1 hj with h | h
            · exact hall j h
            · rw [h]; exact hq⟩ (by simp only [Int.toNat_natCast]; omega)
        · rw [show (a.getD k 0 != b.getD k 0) = true by simpa using hq]
          refine ⟨_, rfl, ?_⟩
          rw [decide_eq_false]
          intro e; exact hq (by rw [e])
      · rw [decide_eq_false (show ¬ (k : Int) < (a.length : Int) by omega)]
        refine ⟨_, rfl, ?_⟩
        rw [decide_eq_true (getD_ext hl (fun j hj => hall j (by omega)))]) n 0 ⟨0, rfl, by omega, fun j hj => by omega⟩ (by simp; omega)
    rw [e, h]
  · rw [show (((a.length : Nat) : Int) != ((b.length : Nat) : Int)) = true by simpa using fun e : ((a.length : Nat) : Int) = (b.length : Nat) => hl (by omega), decide_eq_false (fun e => hl (by rw [e]))]
    rfl
end Go.Proofs.YtgjklpadcmedkaaDoor
