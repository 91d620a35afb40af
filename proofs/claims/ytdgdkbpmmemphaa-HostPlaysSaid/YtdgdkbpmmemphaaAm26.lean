/- A machine of values, part 26: plain laws of bits. -/
import Derived.Test.YtdgdkbpmmemphaaAm23
namespace Go.Proofs.Ytdgdkbpmmemphaa
open Go Go.RowKit
set_option linter.unusedVariables false

theorem loopF_eq {D R : Type} (body : (D → Option R) → D → Option R) (V : D → Option R) (I : D → Prop) (μ : D → Nat) (h : ∀ k d, I d → (∀ d', I d' → μ d' < μ d → k d' = V d') → body k d = V d) : ∀ n d, I d → μ d < n → loopF body n d = V d
  | 0, d, _, hm => by omega
  | n + 1, d, hd, hm => h (loopF body n) d hd fun d' hd' hm' => loopF_eq body V I μ h n d' hd' (by omega)
theorem bv64 (x : Nat) (h : x < 18446744073709551616) : (BitVec.ofInt 64 (x : Int)).toNat = x := by
  rw [BitVec.toNat_ofInt]
  omega
theorem w64n (x : Nat) (h : x < 9223372036854775808) : IntKind.i64.wrap (x : Int) = x := w64 (by omega) (by omega)
theorem u64w (x : Int) : IntKind.wrap .u64 x = x % 18446744073709551616 := by
  simp [IntKind.wrap, IntKind.bits, IntKind.signed]
theorem bAnd (a b : Nat) (ha : a < 9223372036854775808) (hb : b < 9223372036854775808) : bitsI .and .i64 (a : Int) (b : Int) = ((a &&& b : Nat) : Int) := by
  have hx : a &&& b < 2 ^ 63 := Nat.and_lt_two_pow _ (by omega)
  show IntKind.i64.wrap ((BitVec.ofInt 64 (a : Int) &&& BitVec.ofInt 64 (b : Int)).toNat : Int) = _
  rw [BitVec.toNat_and, bv64 a (by omega), bv64 b (by omega), w64n _ (by omega)]
/-- bits that do not meet: 'or' is a sum -/
theorem nat_or_add (x y i : Nat) (hx : x < 2 ^ i) : x ||| y * 2 ^ i = x + y * 2 ^ i := by
  rw [Nat.or_comm, ← Nat.shiftLeft_eq, ← Nat.shiftLeft_add_eq_or_of_lt hx, Nat.add_comm]
theorem bMask (x i : Nat) (hx : x < 9223372036854775808) (hi : i ≤ 62) : bitsI .and .i64 (x : Int) ((2 ^ i - 1 : Nat) : Int) = ((x % 2 ^ i : Nat) : Int) := by
  have : (2 : Nat) ^ i ≤ 2 ^ 62 := Nat.pow_le_pow_right (by omega) hi
  rw [bAnd x (2 ^ i - 1) hx (by omega), Nat.and_two_pow_sub_one_eq_mod]
theorem shr_div (k : IntKind) (x : Int) (j : Nat) (hj : j ≤ k.bits) : shrI k x (j : Int) = x / 2 ^ j := by
  unfold shrI
  rw [Int.toNat_natCast, Nat.min_eq_left hj, Int.fdiv_eq_ediv_of_nonneg]
  exact Int.le_of_lt (Int.pow_pos (by omega))
end Go.Proofs.Ytdgdkbpmmemphaa
