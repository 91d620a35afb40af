/- A machine of values, part 26: plain laws of bits. -/
import Derived.Test.YtbpjinefbnlenaaGreatDoorAm23
namespace Go.Proofs.YtbpjinefbnlenaaGreatDoor
open Go Go.RowKit
set_option linter.unusedVariables false

theorem loopF_eq {D R : Type} (body : (D → Option R) → D → Option R) (V : D → Option R) (I : D → Prop) (μ : D → Nat) (h : ∀ k d, I d → (∀ d', I d' → μ d' < μ d → k d' = V d') → body k d = V d) : ∀ n d, I d → μ d < n → loopF body n d = V d
  | 0, d, _, hm => by omega
  | n + 1, d, hd, hm => h (loopF body n) d hd fun d' hd' hm' => loopF_eq body V I μ h n d' hd' (by omega)
theorem u8w (x : Int) : IntKind.wrap .u8 x = x % 256 := by
  have e : IntKind.wrap .u8 x = if IntKind.u8.signed = true ∧ x % 256 ≥ 128 then x % 256 - 256 else x % 256 := by simp [IntKind.wrap, IntKind.bits, IntKind.signed]
  rw [e, if_neg (by simp [IntKind.signed])]
theorem u64w (x : Int) : IntKind.wrap .u64 x = x % 18446744073709551616 := by
  simp [IntKind.wrap, IntKind.bits, IntKind.signed]
/-- bits that do not meet: 'or' is a sum -/
theorem nat_or_add (x y i : Nat) (hx : x < 2 ^ i) : x ||| y * 2 ^ i = x + y * 2 ^ i := by
  rw [Nat.or_comm, ← Nat.shiftLeft_eq, ← Nat.shiftLeft_add_eq_or_of_lt hx, Nat.add_comm]
theorem shr_div (k : IntKind) (x : Int) (j : Nat) (hj : j ≤ k.bits) : shrI k x (j : Int) = x / 2 ^ j := by
  unfold shrI
  rw [Int.toNat_natCast, Nat.min_eq_left hj, Int.fdiv_eq_ediv_of_nonneg]
  exact Int.le_of_lt (Int.pow_pos (by omega))
theorem strOf_app (a b : List Int) : strOf (a ++ b) = strOf a ++ strOf b := by simp [strOf]
end Go.Proofs.YtbpjinefbnlenaaGreatDoor
