/- Plans of transfers, in plain Lean: the arguments. -/
import Derived.Test.YtfcilapoefaanaaSStab5
namespace Go.Proofs.Ytfcilapoefaanaa
open Go Go.RowKit
open Classical
set_option linter.unusedVariables false
def perOk (p : Int) : Prop := p = 1 ∨ p = 2 ∨ p = 4 ∨ p = 8 ∨ p = 16 ∨ p = 32
theorem per1 : ∀ k : _root_.Fin 32, ((bitsI .and .i64 ((k.val : Int) + 1) (IntKind.wrap .i64 ((k.val : Int) + 1 - 1)) == 0) = true ↔ perOk ((k.val : Int) + 1)) := by
  unfold perOk
  decide +kernel
theorem per2 : ∀ k : _root_.Fin 32, (((32 : Int).tmod ((k.val : Int) + 1) != 0) = false ↔ perOk ((k.val : Int) + 1)) := by
  unfold perOk
  decide +kernel
theorem l115 (n : Nat) (p : Int) : F69 n p = some (decide (perOk p)) := by
  unfold F69
  by_cases h1 : p ≥ 1
  · rw [decide_eq_true h1]
    by_cases h2 : p ≤ 32
    · rw [decide_eq_true h2]
      have := per1 ⟨(p - 1).toNat, by omega⟩
      simp only [show (((p - 1).toNat : Nat) : Int) + 1 = p by omega] at this
      simp only [cond_true, Option.some.injEq]
      rw [Bool.eq_iff_iff, this, decide_eq_true_iff]
    · rw [decide_eq_false h2, decide_eq_false (show ¬ perOk p by unfold perOk; omega)]; rfl
  · rw [decide_eq_false h1, decide_eq_false (show ¬ perOk p by unfold perOk; omega)]; rfl
def allPer (P : List Int) : Prop := ∀ j, j < P.length → perOk (P.getD j 0)
noncomputable def argE (P : List Int) (lanes : Int) : Int := if ¬ (1 ≤ lanes ∧ lanes ≤ 8) then 1 else if 64 < P.length then 2 else if allPer P then 0 else 1
theorem l88 (n : Nat) (hn : 100 < n) (P : List Int) (lanes : Int) : F43 n P lanes = some (argE P lanes) := by
  unfold F43 argE
  by_cases h1 : lanes < 1
  · rw [decide_eq_true h1, if_pos (by omega)]; rfl
  rw [decide_eq_false h1]
  by_cases h2 : lanes > 8
  · rw [decide_eq_true h2, if_pos (by omega)]; rfl
  rw [decide_eq_false h2, if_neg (by omega)]
  by_cases h3 : 64 < P.length
  · rw [decide_eq_true (show ((P.length : Nat) : Int) > 64 by omega), if_pos h3]; rfl
  rw [decide_eq_false (show ¬ ((P.length : Nat) : Int) > 64 by omega), if_neg h3]
  simp only [cond_false]
  refine loopF_eq (F43_l2 n P) (fun _ => some (if allPer P then 0 else 1)) (fun x => ∃ k : Nat, x = (k : Int) ∧ k ≤ P.length ∧ ∀ j, j < k → perOk (P.getD j 0)) (fun x => P.length - x.toNat) ?_ n 0 ⟨0, rfl, by omega, fun j hj => by omega⟩ (by simp; omega)
  rintro kk x ⟨k, rfl, hk, hall⟩ ih
  simp only [F43_l2, Int.toNat_natCast, l115]
  by_cases hka : k < P.length
  · rw [decide_eq_true (show (k : Int) < (P.length : Int) by omega), inb_true (show (0 : Int) ≤ k by omega) (show (k : Int) < P.length by omega)]
    simp only [cond_true, Option.bind_some]
    by_cases hp : perOk (P.getD k 0)
    · rw [decide_eq_true hp, w64 (n := (k : Int) + 1) (by omega) (by omega)]
      exact ih ((k : Int) + 1) ⟨k + 1, by omega, by omega, fun j hj => by
        rcases Nat.lt_succ_iff_lt_or_eq.1 hj with h | h
        · exact hall j h
        · rw [h]; exact hp⟩ (by simp only [Int.toNat_natCast]; omega)
    · rw [decide_eq_false hp, if_neg (fun h => hp (h k hka))]; rfl
  · rw [decide_eq_false (show ¬ (k : Int) < (P.length : Int) by omega), if_pos (show allPer P from fun j hj => hall j (by omega))]; rfl
theorem l16 (n : Nat) (lo hi v : Int) : F21 n v lo hi = some (decide (lo ≤ v ∧ v ≤ hi)) := by
  unfold F21
  by_cases h : lo ≤ v
  · rw [decide_eq_true h]
    simp only [cond_true, Option.some.injEq]
    by_cases h2 : v ≤ hi
    · rw [decide_eq_true h2, decide_eq_true ⟨h, h2⟩]
    · rw [decide_eq_false h2, decide_eq_false (fun hh => h2 hh.2)]
  · rw [decide_eq_false h, decide_eq_false (show ¬ (lo ≤ v ∧ v ≤ hi) from fun hh => h hh.1)]; rfl
theorem l90 (n : Nat) (hn : 100 < n) (P : List Int) (lanes : Int) : F47 n P lanes = some (argE P lanes) := by
  unfold F47 argE
  rw [l16]
  simp only [Option.bind_some]
  rcases (Classical.em (1 ≤ lanes ∧ lanes ≤ 8)).symm with h1 | h1
  · rw [decide_eq_false h1, if_pos h1]; rfl
  rw [decide_eq_true h1, if_neg (fun h => h h1)]
  by_cases h3 : 64 < P.length
  · rw [decide_eq_true (show ((P.length : Nat) : Int) > 64 by omega), if_pos h3]; rfl
  rw [decide_eq_false (show ¬ ((P.length : Nat) : Int) > 64 by omega), if_neg h3]
  simp only [Bool.not_true, cond_false]
  refine loopF_eq (F47_l2 n P) (fun _ => some (if allPer P then 0 else 1)) (fun x => ∃ k : Nat, x = (k : Int) ∧ k ≤ P.length ∧ ∀ j, j < k → perOk (P.getD j 0)) (fun x => P.length - x.toNat) ?_ n 0 ⟨0, rfl, by omega, fun j hj => by omega⟩ (by simp; omega)
  rintro kk x ⟨k, rfl, hk, hall⟩ ih
  simp only [F47_l2, Int.toNat_natCast]
  by_cases hka : k < P.length
  · rw [decide_eq_true (show (k : Int) < (P.length : Int) by omega), inb_true (show (0 : Int) ≤ k by omega) (show (k : Int) < P.length by omega)]
    simp only [cond_true]
    obtain ⟨p, hq⟩ : ∃ p, P.getD k 0 = p := ⟨_, rfl⟩
    simp only [hq]
    have no : ¬ perOk p → some (1 : Int) = some (if allPer P then 0 else 1) := fun hp => by rw [if_neg (fun h => hp (by rw [← hq]; exact h k hka))]
    by_cases g1 : p < 1
    · rw [decide_eq_true g1]; exact no (by unfold perOk; omega)
    rw [decide_eq_false g1]
    by_cases g2 : p > 32
    · rw [decide_eq_true g2]; exact no (by unfold perOk; omega)
    rw [decide_eq_false g2, show (p != 0) = true by simp; omega]
    have := per2 ⟨(p - 1).toNat, by omega⟩
    simp only [show (((p - 1).toNat : Nat) : Int) + 1 = p by omega] at this
    simp only [cond_false, cond_true]
    by_cases hp : perOk p
    · rw [this.2 hp, w64 (n := (k : Int) + 1) (by omega) (by omega)]
      exact ih ((k : Int) + 1) ⟨k + 1, by omega, by omega, fun j hj => by
        rcases Nat.lt_succ_iff_lt_or_eq.1 hj with h | h
        · exact hall j h
        · rw [h, hq]; exact hp⟩ (by simp only [Int.toNat_natCast]; omega)
    · have : ((32 : Int).tmod p != 0) = true := by
        cases h : ((32 : Int).tmod p != 0)
        · exact absurd (this.1 h) hp
        · rfl
      rw [this]; exact no hp
  · rw [decide_eq_false (show ¬ (k : Int) < (P.length : Int) by omega), if_pos (show allPer P from fun j hj => hall j (by omega))]; rfl
theorem arg0 {P : List Int} {lanes : Int} (h : argE P lanes = 0) : (1 ≤ lanes ∧ lanes ≤ 8) ∧ P.length ≤ 64 ∧ allPer P := by
  unfold argE at h
  by_cases h1 : 1 ≤ lanes ∧ lanes ≤ 8
  · rw [if_neg (fun hh => hh h1)] at h
    by_cases h2 : 64 < P.length
    · rw [if_pos h2] at h; omega
    · rw [if_neg h2] at h
      by_cases h3 : allPer P
      · exact ⟨h1, by omega, h3⟩
      · rw [if_neg h3] at h; omega
  · rw [if_pos h1] at h; omega
end Go.Proofs.Ytfcilapoefaanaa
