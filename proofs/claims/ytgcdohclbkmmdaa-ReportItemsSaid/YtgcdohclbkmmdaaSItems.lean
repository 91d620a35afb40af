/- The law ReportItems, in plain Lean (first part: numbers and items). -/
import Derived.Test.YtgcdohclbkmmdaaFi
import Derived.Test.YtgcdohclbkmmdaaAm26
namespace Go.Proofs.Ytgcdohclbkmmdaa
open Go Go.RowKit
set_option linter.unusedVariables false

theorem w64e (x : Int) : IntKind.wrap .i64 x = if x % 18446744073709551616 ≥ 9223372036854775808 then x % 18446744073709551616 - 18446744073709551616 else x % 18446744073709551616 := by
  have e : IntKind.wrap .i64 x = if IntKind.i64.signed = true ∧ x % 18446744073709551616 ≥ 9223372036854775808 then x % 18446744073709551616 - 18446744073709551616 else x % 18446744073709551616 := by simp [IntKind.wrap, IntKind.bits, IntKind.signed]
  rw [e]
  by_cases h : x % 18446744073709551616 ≥ 9223372036854775808
  · rw [if_pos h, if_pos ⟨rfl, h⟩]
  · rw [if_neg h, if_neg (fun hh => h hh.2)]
theorem bOrU (a b : Nat) (ha : a < 18446744073709551616) (hb : b < 18446744073709551616) : bitsI .or .u64 (a : Int) (b : Int) = ((a ||| b : Nat) : Int) := by
  have hx : a ||| b < 2 ^ 64 := Nat.or_lt_two_pow (by omega) (by omega)
  show IntKind.u64.wrap ((BitVec.ofInt 64 (a : Int) ||| BitVec.ofInt 64 (b : Int)).toNat : Int) = _
  rw [BitVec.toNat_or, bv64 a (by omega), bv64 b (by omega), u64w]
  omega
theorem and3 (x : UInt8) : bitsI .and .u8 ((x.toNat : Nat) : Int) 3 = ((x.toNat % 4 : Nat) : Int) := by
  have h := x.toNat_lt
  have e : ∀ y : _root_.Fin 256, bitsI .and .u8 ((y.val : Nat) : Int) 3 = ((y.val % 4 : Nat) : Int) := by decide +kernel
  exact e ⟨x.toNat, by simpa using h⟩
/-- bytes as a number, the low one first -/
def leV : List UInt8 → Nat
  | [] => 0
  | a :: t => a.toNat + 256 * leV t
theorem leV_app (b : UInt8) : ∀ a : List UInt8, leV (a ++ [b]) = leV a + b.toNat * 256 ^ a.length
  | [] => by simp [leV]
  | x :: t => by
    simp only [List.cons_append, leV, leV_app b t, List.length_cons, Nat.pow_succ]
    rw [Nat.mul_add, Nat.mul_comm (256 ^ t.length) 256, Nat.mul_left_comm, Nat.add_assoc]
theorem leV_lt : ∀ a : List UInt8, leV a < 256 ^ a.length
  | [] => by simp [leV]
  | x :: t => by
    have h := leV_lt t
    have hx := x.toNat_lt
    simp only [leV, List.length_cons, Nat.pow_succ]
    omega
theorem two' (n : Nat) (hn : 100 < n) (k : Nat) (hk : k ≤ 40) : F95 n (k : Int) = some ((2 ^ k : Nat) : Int) := by
  unfold F95
  refine loopF_eq (F95_l2 n (k : Int)) (fun _ => some ((2 ^ k : Nat) : Int)) (fun d => ∃ j : Nat, d = (((2 ^ j : Nat) : Int), (j : Int)) ∧ j ≤ k) (fun d => k - d.2.toNat) ?_ n (1, 0) ⟨0, rfl, by omega⟩ (by simp; omega)
  rintro kk d ⟨j, rfl, hj⟩ ih
  simp only [F95_l2]
  by_cases h : j < k
  · have : 2 ^ j < 2 ^ 40 := Nat.pow_lt_pow_right (by omega) (by omega)
    have e2 : IntKind.wrap .i64 (((2 ^ j : Nat) : Int) * 2) = ((2 ^ (j + 1) : Nat) : Int) := by
      rw [Nat.pow_succ]
      generalize 2 ^ j = p at *
      rw [w64 (by omega) (by omega)]; omega
    rw [decide_eq_true (show (j : Int) < (k : Int) by omega), w64 (n := (j : Int) + 1) (by omega) (by omega), e2]
    exact ih _ ⟨j + 1, rfl, by omega⟩ (by simp only [Int.toNat_natCast]; omega)
  · obtain rfl : j = k := by omega
    rw [decide_eq_false (by omega)]; rfl
/-- the number with a sign -/
def sgn (s : List UInt8) : Int := if 128 ≤ (s.getD (s.length - 1) 0).toNat then (leV s : Int) - ((2 ^ (8 * s.length) : Nat) : Int) else leV s
theorem p256 (k : Nat) : 256 ^ k = 2 ^ (8 * k) := by rw [Nat.pow_mul]
theorem signNum (n : Nat) (hn : 100 < n) (s : List UInt8) (hs : s.length ≤ 4) : F93 n s = some (sgn s) := by
  unfold F93
  refine loopF_eq (F93_l2 n s) (fun _ => some (sgn s)) (fun d => ∃ x : Nat, d = ((leV (s.take x) : Int), (x : Int)) ∧ x ≤ s.length) (fun d => s.length - d.2.toNat) ?_ n (0, 0) ⟨0, rfl, by omega⟩ (by simp; omega)
  rintro kk d ⟨x, rfl, hx⟩ ih
  simp only [F93_l2, Int.toNat_natCast]
  have hl := leV_lt (s.take x)
  rw [List.length_take, Nat.min_eq_left hx] at hl
  have h4 : 256 ^ s.length ≤ 256 ^ 4 := Nat.pow_le_pow_right (by omega) hs
  by_cases h : x < s.length
  · have hb := (s.getD x 0).toNat_lt
    have e1 : IntKind.wrap .i64 (8 * (x : Int)) = ((8 * x : Nat) : Int) := by rw [w64 (by omega) (by omega)]; omega
    have h5 : 256 ^ x ≤ 256 ^ 3 := Nat.pow_le_pow_right (by omega) (by omega)
    have hp : 0 < 256 ^ x := Nat.pow_pos (by omega)
    have e3 : s.take (x + 1) = s.take x ++ [s.getD x 0] := by
      rw [List.take_add_one, List.getD_eq_getElem?_getD, List.getElem?_eq_getElem h]; rfl
    have e4 := leV_app (s.getD x 0) (s.take x)
    rw [← e3, List.length_take, Nat.min_eq_left hx] at e4
    rw [decide_eq_true (show (x : Int) < ((s.length : Nat) : Int) by omega), inb_true (show (0 : Int) ≤ x by omega) (show (x : Int) < (s.length : Nat) by omega), e1, two' n hn (8 * x) (by omega), ← p256, w64 (n := (x : Int) + 1) (by omega) (by omega)]
    simp only [cond_true, Option.bind_some]
    have hq : (s.getD x 0).toNat * 256 ^ x ≤ 255 * 256 ^ x := Nat.mul_le_mul_right _ (by omega)
    generalize 256 ^ x = p at *
    generalize (s.getD x 0).toNat = b at *
    generalize leV (s.take x) = v at *
    have e5 : (b : Int) * (p : Int) = ((b * p : Nat) : Int) := by simp
    rw [w64 (n := (b : Int)) (by omega) (by omega), e5]
    generalize b * p = bp at *
    rw [w64 (n := ((bp : Nat) : Int)) (by omega) (by omega), w64 (n := (v : Int) + ((bp : Nat) : Int)) (by omega) (by omega)]
    refine ih _ ⟨x + 1, ?_, by omega⟩ (by simp only [Int.toNat_natCast]; omega)
    rw [e4]; simp
  · obtain rfl : x = s.length := by omega
    rw [List.take_length] at hl ⊢
    rw [decide_eq_false (by omega)]
    simp only [cond_false]
    unfold sgn
    cases s with
    | nil => rfl
    | cons a t =>
      generalize hst : a :: t = s at *
      have hne : (s == []) = false := by rw [← hst]; rfl
      have hlen : 1 ≤ s.length := by rw [← hst]; simp
      rw [hne, w64 (n := ((s.length : Nat) : Int) - 1) (by omega) (by omega), show ((s.length : Nat) : Int) - 1 = ((s.length - 1 : Nat) : Int) by omega, inb_true (show (0 : Int) ≤ (s.length - 1 : Nat) by omega) (show ((s.length - 1 : Nat) : Int) < (s.length : Nat) by omega)]
      simp only [Bool.not_false, cond_true, Int.toNat_natCast]
      have e1 : IntKind.wrap .i64 (8 * ((s.length : Nat) : Int)) = ((8 * s.length : Nat) : Int) := by rw [w64 (by omega) (by omega)]; omega
      rw [e1, two' n hn (8 * s.length) (by omega), ← p256]
      by_cases hh : 128 ≤ (s.getD (s.length - 1) 0).toNat
      · rw [if_pos hh, decide_eq_true (by omega)]
        simp only [cond_true, Option.bind_some]
        generalize 256 ^ s.length = p at *
        rw [w64 (by omega) (by omega)]
      · rw [if_neg hh, decide_eq_false (by omega)]; rfl
/-- what the program makes of the bytes -/
def shN (k : Nat) : Int := IntKind.wrap .u64 (IntKind.wrap .i64 (64 - IntKind.wrap .i64 (8 * (k : Int))))
theorem shl' (x : Int) (j : Nat) (c : Int) (hc : (2 : Int) ^ j = c) (hj : j ≤ 64) : shlI .u64 x (j : Int) = IntKind.wrap .u64 (x * c) := by
  unfold shlI
  rw [Int.toNat_natCast, Nat.min_eq_left (by simpa [IntKind.bits] using hj), hc]
theorem shr' (x : Int) (j : Nat) (c : Int) (hc : (2 : Int) ^ j = c) (hj : j ≤ 64) : shrI .i64 x (j : Int) = x / c := by
  rw [shr_div .i64 x j (by simpa [IntKind.bits] using hj), hc]
theorem sgnW (V c H : Int) (hc : 0 < c) (h : H * c = 9223372036854775808) (v0 : 0 ≤ V) (v1 : V < 2 * H) : IntKind.wrap .i64 (IntKind.wrap .u64 (V * c)) / c = if H ≤ V then V - 2 * H else V := by
  have a1 : V * c < 2 * H * c := Int.mul_lt_mul_of_pos_right v1 hc
  have a2 : 0 ≤ V * c := Int.mul_nonneg v0 (by omega)
  have a3 : 2 * H * c = 18446744073709551616 := by rw [Int.mul_assoc, h]; rfl
  have a4 : (V - 2 * H) * c = V * c - 18446744073709551616 := by rw [Int.sub_mul, a3]
  have a5 : H ≤ V ↔ 9223372036854775808 ≤ V * c := by
    rw [← h]
    constructor
    · intro q; exact Int.mul_le_mul_of_nonneg_right q (by omega)
    · intro q
      by_cases r : H ≤ V
      · exact r
      · have : V * c < H * c := Int.mul_lt_mul_of_pos_right (by omega) hc
        omega
  rw [u64w, w64e]
  have e1 : V * c % 18446744073709551616 = V * c := by omega
  rw [e1, e1]
  by_cases q : H ≤ V
  · rw [if_pos q, if_pos (a5.1 q), ← a4, Int.mul_ediv_cancel _ (by omega)]
  · rw [if_neg q, if_neg (fun hh => q (a5.2 hh)), Int.mul_ediv_cancel _ (by omega)]
theorem sgn_of (s : List UInt8) (b : UInt8) (m : Nat) (hb : s.getD (s.length - 1) 0 = b) (hm : 2 ^ (8 * s.length) = m) : sgn s = if 128 ≤ b.toNat then (leV s : Int) - (m : Int) else leV s := by
  unfold sgn
  rw [hb, hm]
theorem signP (k : Nat) (hk : k = 0 ∨ k = 1 ∨ k = 2 ∨ k = 4) (s : List UInt8) (hs : s.length = k) : shrI .i64 (IntKind.wrap .i64 (shlI .u64 (leV s : Int) (shN k))) (shN k) = sgn s := by
  rcases hk with rfl | rfl | rfl | rfl
  · obtain rfl := List.length_eq_zero_iff.1 hs
    decide
  · match s, hs with
    | [a], _ =>
      have ha := a.toNat_lt
      have e : shN 1 = ((56 : Nat) : Int) := by decide
      have e1 : leV [a] = a.toNat := by simp [leV]
      rw [sgn_of [a] a 256 rfl (by simp), e, shl' _ 56 72057594037927936 (by decide) (by decide), shr' _ 56 72057594037927936 (by decide) (by decide), e1, sgnW _ _ 128 (by decide) (by decide) (by omega) (by omega)]
      by_cases h : 128 ≤ a.toNat
      · rw [if_pos h, if_pos (by omega)]; rfl
      · rw [if_neg h, if_neg (by omega)]
  · match s, hs with
    | [a, b], _ =>
      have ha := a.toNat_lt
      have hb := b.toNat_lt
      have e : shN 2 = ((48 : Nat) : Int) := by decide
      have e1 : leV [a, b] = a.toNat + 256 * b.toNat := by simp [leV]
      rw [sgn_of [a, b] b 65536 rfl (by simp), e, shl' _ 48 281474976710656 (by decide) (by decide), shr' _ 48 281474976710656 (by decide) (by decide), e1, sgnW _ _ 32768 (by decide) (by decide) (by omega) (by omega)]
      by_cases h : 128 ≤ b.toNat
      · rw [if_pos h, if_pos (by omega)]; rfl
      · rw [if_neg h, if_neg (by omega)]
  · match s, hs with
    | [a, b, c, d], _ =>
      have ha := a.toNat_lt
      have hb := b.toNat_lt
      have hc := c.toNat_lt
      have hd := d.toNat_lt
      have e : shN 4 = ((32 : Nat) : Int) := by decide
      have e1 : leV [a, b, c, d] = a.toNat + 256 * b.toNat + 65536 * c.toNat + 16777216 * d.toNat := by simp [leV]; omega
      rw [sgn_of [a, b, c, d] d 4294967296 rfl (by simp), e, shl' _ 32 4294967296 (by decide) (by decide), shr' _ 32 4294967296 (by decide) (by decide), e1, sgnW _ _ 2147483648 (by decide) (by decide) (by omega) (by omega)]
      by_cases h : 128 ≤ d.toNat
      · rw [if_pos h, if_pos (by omega)]; rfl
      · rw [if_neg h, if_neg (by omega)]
end Go.Proofs.Ytgcdohclbkmmdaa
