/- A machine of values, part 26: plain laws of bits. -/
import Derived.Test.YtgjklpadcmedkaaDoorAm23
namespace Go.Proofs.YtgjklpadcmedkaaDoor
open Go Go.RowKit
set_option linter.unusedVariables false

theorem loopF_eq {D R : Type} (body : (D → Option R) → D → Option R) (V : D → Option R) (I : D → Prop) (μ : D → Nat) (h : ∀ k d, I d → (∀ d', I d' → μ d' < μ d → k d' = V d') → body k d = V d) : ∀ n d, I d → μ d < n → loopF body n d = V d
  | 0, d, _, hm => by omega
  | n + 1, d, hd, hm => h (loopF body n) d hd fun d' hd' hm' => loopF_eq body V I μ h n d' hd' (by omega)
theorem bv64 (x : Nat) (h : x < 18446744073709551616) : (BitVec.ofInt 64 (x : Int)).toNat = x := by
  rw [BitVec.toNat_ofInt]
  omega
theorem w64n (x : Nat) (h : x < 9223372036854775808) : IntKind.i64.wrap (x : Int) = x := w64 (by omega) (by omega)
theorem u8w (x : Int) : IntKind.wrap .u8 x = x % 256 := by
  have e : IntKind.wrap .u8 x = if IntKind.u8.signed = true ∧ x % 256 ≥ 128 then x % 256 - 256 else x % 256 := by simp [IntKind.wrap, IntKind.bits, IntKind.signed]
  rw [e, if_neg (by simp [IntKind.signed])]
theorem u64w (x : Int) : IntKind.wrap .u64 x = x % 18446744073709551616 := by
  simp [IntKind.wrap, IntKind.bits, IntKind.signed]
theorem bOr (a b : Nat) (ha : a < 9223372036854775808) (hb : b < 9223372036854775808) : bitsI .or .i64 (a : Int) (b : Int) = ((a ||| b : Nat) : Int) := by
  have hx : a ||| b < 2 ^ 63 := Nat.or_lt_two_pow (by omega) (by omega)
  show IntKind.i64.wrap ((BitVec.ofInt 64 (a : Int) ||| BitVec.ofInt 64 (b : Int)).toNat : Int) = _
  rw [BitVec.toNat_or, bv64 a (by omega), bv64 b (by omega), w64n _ (by omega)]
theorem bAnd (a b : Nat) (ha : a < 9223372036854775808) (hb : b < 9223372036854775808) : bitsI .and .i64 (a : Int) (b : Int) = ((a &&& b : Nat) : Int) := by
  have hx : a &&& b < 2 ^ 63 := Nat.and_lt_two_pow _ (by omega)
  show IntKind.i64.wrap ((BitVec.ofInt 64 (a : Int) &&& BitVec.ofInt 64 (b : Int)).toNat : Int) = _
  rw [BitVec.toNat_and, bv64 a (by omega), bv64 b (by omega), w64n _ (by omega)]
theorem bXor (a b : Nat) (ha : a < 9223372036854775808) (hb : b < 9223372036854775808) : bitsI .xor .i64 (a : Int) (b : Int) = ((a ^^^ b : Nat) : Int) := by
  have hx : a ^^^ b < 2 ^ 63 := Nat.xor_lt_two_pow (by omega) (by omega)
  show IntKind.i64.wrap ((BitVec.ofInt 64 (a : Int) ^^^ BitVec.ofInt 64 (b : Int)).toNat : Int) = _
  rw [BitVec.toNat_xor, bv64 a (by omega), bv64 b (by omega), w64n _ (by omega)]
/-- bits that do not meet: 'or' is a sum -/
theorem nat_or_add (x y i : Nat) (hx : x < 2 ^ i) : x ||| y * 2 ^ i = x + y * 2 ^ i := by
  rw [Nat.or_comm, ← Nat.shiftLeft_eq, ← Nat.shiftLeft_add_eq_or_of_lt hx, Nat.add_comm]
theorem bOrAdd (x y i : Nat) (hx : x < 2 ^ i) (h : x + y * 2 ^ i < 9223372036854775808) : bitsI .or .i64 (x : Int) ((y * 2 ^ i : Nat) : Int) = ((x + y * 2 ^ i : Nat) : Int) := by
  rw [bOr x (y * 2 ^ i) (by omega) (by omega), nat_or_add x y i hx]
theorem bMask (x i : Nat) (hx : x < 9223372036854775808) (hi : i ≤ 62) : bitsI .and .i64 (x : Int) ((2 ^ i - 1 : Nat) : Int) = ((x % 2 ^ i : Nat) : Int) := by
  have : (2 : Nat) ^ i ≤ 2 ^ 62 := Nat.pow_le_pow_right (by omega) hi
  rw [bAnd x (2 ^ i - 1) hx (by omega), Nat.and_two_pow_sub_one_eq_mod]
theorem shr_div (k : IntKind) (x : Int) (j : Nat) (hj : j ≤ k.bits) : shrI k x (j : Int) = x / 2 ^ j := by
  unfold shrI
  rw [Int.toNat_natCast, Nat.min_eq_left hj, Int.fdiv_eq_ediv_of_nonneg]
  exact Int.le_of_lt (Int.pow_pos (by omega))
theorem shl_mul (x j : Nat) (hj : j ≤ 64) (h : x * 2 ^ j < 9223372036854775808) : shlI .i64 (x : Int) (j : Int) = ((x * 2 ^ j : Nat) : Int) := by
  unfold shlI
  rw [Int.toNat_natCast, Nat.min_eq_left (by simpa [IntKind.bits] using hj)]
  have e : (x : Int) * 2 ^ j = ((x * 2 ^ j : Nat) : Int) := by simp
  rw [e, w64n _ h]
theorem u8_nat (x : UInt8) : UInt8.ofNat ((x.toNat : Nat) : Int).toNat = x := by simp
theorem strOf_app (a b : List Int) : strOf (a ++ b) = strOf a ++ strOf b := by simp [strOf]
theorem u8_same {x y : Int} (h : x.toNat % 256 = y.toNat % 256) : UInt8.ofNat x.toNat = UInt8.ofNat y.toNat := by
  apply UInt8.toNat.inj
  simpa using h
end Go.Proofs.YtgjklpadcmedkaaDoor
