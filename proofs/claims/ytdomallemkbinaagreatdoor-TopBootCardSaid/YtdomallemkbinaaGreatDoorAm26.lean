/- A machine of values, part 26: plain laws of bits. -/
import Derived.Test.YtdomallemkbinaaGreatDoorAm23
namespace Go.Proofs.YtdomallemkbinaaGreatDoor
open Go Go.RowKit
set_option linter.unusedVariables false

theorem loopF_eq {D R : Type} (body : (D → Option R) → D → Option R) (V : D → Option R) (I : D → Prop) (μ : D → Nat) (h : ∀ k d, I d → (∀ d', I d' → μ d' < μ d → k d' = V d') → body k d = V d) : ∀ n d, I d → μ d < n → loopF body n d = V d
  | 0, d, _, hm => by omega
  | n + 1, d, hd, hm => h (loopF body n) d hd fun d' hd' hm' => loopF_eq body V I μ h n d' hd' (by omega)
theorem bv64 (x : Nat) (h : x < 18446744073709551616) : (BitVec.ofInt 64 (x : Int)).toNat = x := by
  rw [BitVec.toNat_ofInt]
  omega
theorem u64w (x : Int) : IntKind.wrap .u64 x = x % 18446744073709551616 := by
  simp [IntKind.wrap, IntKind.bits, IntKind.signed]
theorem shr_div (k : IntKind) (x : Int) (j : Nat) (hj : j ≤ k.bits) : shrI k x (j : Int) = x / 2 ^ j := by
  unfold shrI
  rw [Int.toNat_natCast, Nat.min_eq_left hj, Int.fdiv_eq_ediv_of_nonneg]
  exact Int.le_of_lt (Int.pow_pos (by omega))
end Go.Proofs.YtdomallemkbinaaGreatDoor
