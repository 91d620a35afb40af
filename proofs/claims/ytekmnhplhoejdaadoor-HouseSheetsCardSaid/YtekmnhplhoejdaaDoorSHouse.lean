/- The sheets of a house's devices, in plain Lean: the law HouseSheets. -/
import Derived.Test.YtekmnhplhoejdaaDoorFhs
import Derived.Test.YtekmnhplhoejdaaDoorAm26
namespace Go.Proofs.YtekmnhplhoejdaaDoor
open Go Go.RowKit
set_option linter.unusedVariables false

theorem itoaN (n s : Nat) (hs : s < 8) : F41 n (s : Int) = some [UInt8.ofNat (48 + s)] := by
  unfold F41
  rw [decide_eq_true (show 0 ≤ (s : Int) ∧ (s : Int) < 100 by omega), Int.toNat_natCast]
  unfold Lib.decDigits
  rw [dif_pos (by omega)]; rfl
theorem betH (n : Nat) (v lo hi : Int) : F27 n v lo hi = some (decide (lo ≤ v ∧ v ≤ hi)) := by
  unfold F27
  by_cases h : lo ≤ v <;> simp [h]
theorem inside (path : List Int) (ports : Int) (k s : Nat) (hk : 1 ≤ k ∧ k ≤ 3) (hs : s < 8) : F5 20 path (k : Int) ports (s : Int) = some true := by
  unfold F5 F13 F13_j3 F13_j4
  simp only []
  rw [itoaN 20 s hs]
  have hk3 : k = 1 ∨ k = 2 ∨ k = 3 := by omega
  have hs8 : s = 0 ∨ s = 1 ∨ s = 2 ∨ s = 3 ∨ s = 4 ∨ s = 5 ∨ s = 6 ∨ s = 7 := by omega
  clear hk hs
  rcases hk3 with rfl | rfl | rfl <;> rcases hs8 with rfl | rfl | rfl | rfl | rfl | rfl | rfl | rfl <;> rfl
theorem sheetsN (path : List Int) (k ports s : Int) : F5 20 path k ports s = some true := by
  by_cases hk : 1 ≤ k ∧ k ≤ 3
  · by_cases hs : 0 ≤ s ∧ s ≤ 7
    · obtain ⟨a, rfl⟩ : ∃ a : Nat, k = a := ⟨k.toNat, by omega⟩
      obtain ⟨b, rfl⟩ : ∃ b : Nat, s = b := ⟨s.toNat, by omega⟩
      exact inside path ports a b (by omega) (by omega)
    · unfold F5 F13 F14
      rw [betH, betH, decide_eq_true hk, decide_eq_false hs, decide_eq_false (show ¬ k < 1 by omega), decide_eq_false (show ¬ k > 3 by omega)]
      by_cases q : s < 0
      · rw [decide_eq_true q]; rfl
      · rw [decide_eq_false q, decide_eq_true (show s ≥ 8 by omega)]; rfl
  · unfold F5 F13 F14
    rw [betH, decide_eq_false hk]
    by_cases q : k < 1
    · rw [decide_eq_true q]; rfl
    · rw [decide_eq_false q, decide_eq_true (show k > 3 by omega)]; rfl
theorem houseSheets_says (a0 : Sh.T (.st (.pair (.sl (.int .i64)) (.pair (.int .i64) (.pair (.int .i64) (.int .i64)))))) (g0 : Sh.good (.st (.pair (.sl (.int .i64)) (.pair (.int .i64) (.pair (.int .i64) (.int .i64))))) a0) :
    ∃ n, F5 n a0.1 a0.2.1 a0.2.2.1 a0.2.2.2 = some true := ⟨20, sheetsN a0.1 a0.2.1 a0.2.2.1 a0.2.2.2⟩
end Go.Proofs.YtekmnhplhoejdaaDoor
