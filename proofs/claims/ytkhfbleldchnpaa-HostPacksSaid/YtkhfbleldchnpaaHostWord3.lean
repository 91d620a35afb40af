/- Contracts: Unpack, Unword. -/
import Derived.Test.YtkhfbleldchnpaaHostWord2
namespace Go.Proofs.Ytkhfbleldchnpaa
open Go.RowKit
set_option linter.unusedVariables false
set_option maxRecDepth 100000
/-- what the command of a word is -/
def cmdV (n : Nat) : Value := .agg #[.int .i64 (n / 2199023255552 : Nat), .int .i64 (n / 137438953472 % 16 : Nat), .int .i64 (n / 4294967296 % 32 : Nat), .int .i64 (n % 4294967296 : Nat)]
theorem u64_and_nat (a b : Nat) (ha : a < 18446744073709551616) (hb : b < 18446744073709551616) : Go.bits .and .u64 (a : Int) (b : Int) = ((a &&& b : Nat) : Int) := by
  have hx : a &&& b < 2 ^ 64 := Nat.and_lt_two_pow _ (by omega)
  show IntKind.u64.wrap ((BitVec.ofInt 64 (a : Int) &&& BitVec.ofInt 64 (b : Int)).toNat : Int) = _
  rw [BitVec.toNat_and, ofInt_u64 a (by omega), ofInt_u64 b (by omega), wrap_u64 _ (by omega)]
set_option maxHeartbeats 1000000 in
theorem unpack_bad (n : Nat) (hn : n < 18446744073709551616) (hb : 35184372088832 ≤ n) (w : World) :
    Calls Try.prog 16 #[.int .u64 n] w fun r w' => r = .returned (.tuple #[.agg #[.int .i64 0, .int .i64 0, .int .i64 0, .int .i64 0], .int .i64 4]) ∧ Below w.heap.size w w' := by
  have hq : ((n : Int) / 35184372088832 != 0) = true := by simp; omega
  go_enter Try.func16, Try.ntmps16
  go_wp2
  refine bodyPost_ret (v := .tuple #[.agg #[.int .i64 0, .int .i64 0, .int .i64 0, .int .i64 0], .int .i64 4]) (by simp [results, Try.results16, go_sem]) rfl ⟨rfl, ?_⟩
  go_grown
set_option maxHeartbeats 1000000 in
theorem unpack_good (n : Nat) (hb : n < 35184372088832) (w : World) :
    Calls Try.prog 16 #[.int .u64 n] w fun r w' => r = .returned (.tuple #[cmdV n, .int .i64 0]) ∧ Below w.heap.size w w' := by
  have hq : ((n : Int) / 35184372088832 != 0) = false := by simp; omega
  go_enter Try.func16, Try.ntmps16
  go_wp2
  have q1 : Go.bits .and .u64 ((n : Int) / 137438953472) 15 = (n : Int) / 137438953472 % 16 := by
    have h := u64_and_nat (n / 137438953472) 15 (by omega) (by decide)
    have := Nat.and_two_pow_sub_one_eq_mod (n / 137438953472) 4
    simp only [Nat.reducePow, Nat.reduceSub] at this
    rw [this] at h
    simpa using h
  have q2 : Go.bits .and .u64 ((n : Int) / 4294967296) 31 = (n : Int) / 4294967296 % 32 := by
    have h := u64_and_nat (n / 4294967296) 31 (by omega) (by decide)
    have := Nat.and_two_pow_sub_one_eq_mod (n / 4294967296) 5
    simp only [Nat.reducePow, Nat.reduceSub] at this
    rw [this] at h
    simpa using h
  have q3 : Go.bits .and .u64 (n : Int) 4294967295 = (n : Int) % 4294967296 := by
    have h := u64_and_nat n 4294967295 (by omega) (by decide)
    have := Nat.and_two_pow_sub_one_eq_mod n 32
    simp only [Nat.reducePow, Nat.reduceSub] at this
    rw [this] at h
    simpa using h
  have r1 := IntWalk.wrap64_in ((n : Int) / 137438953472 % 16) (by omega)
  have r2 := IntWalk.wrap64_in ((n : Int) / 4294967296 % 32) (by omega)
  have r3 := IntWalk.wrap64_in ((n : Int) % 4294967296) (by omega)
  refine bodyPost_ret (v := .tuple #[cmdV n, .int .i64 0]) (by simp [results, Try.results16, go_sem, cmdV, q1, q2, q3, r1, r2, r3]) rfl ⟨rfl, ?_⟩
  go_grown
theorem two45 (w : World) : Calls Try.prog 59 #[.int .i64 45] w fun e w' => e = .returned (.int .i64 35184372088832) ∧ w = w' := two_any 45 (by decide) w
set_option maxHeartbeats 1000000 in
theorem unword_bad (n : Nat) (hn : n < 18446744073709551616) (hb : 35184372088832 ≤ n) (w : World) :
    Calls Try.prog 17 #[.int .u64 n] w fun r w' => r = .returned (.tuple #[.agg #[.int .i64 0, .int .i64 0, .int .i64 0, .int .i64 0], .int .i64 4]) ∧ Below w.heap.size w w' := by
  have H4 := Lib.hid two45
  have H3 := Lib.hid two32
  have hu : IntKind.u64.wrap 35184372088832 = 35184372088832 := by simp [IntKind.wrap, IntKind.bits, IntKind.signed]
  have hq : (35184372088832 : Int) ≤ n := by omega
  clear hb hn
  go_enter Try.func17, Try.ntmps17
  go_wp2_with (go_at_call 59; with_reducible refine (H4.out _).mono ?_; rintro r w2 ⟨rfl, rfl⟩)
  refine bodyPost_ret (v := .tuple #[.agg #[.int .i64 0, .int .i64 0, .int .i64 0, .int .i64 0], .int .i64 4]) (by simp [results, Try.results17, go_sem]) rfl ⟨rfl, ?_⟩
  go_grown
set_option maxHeartbeats 1000000 in
theorem unword_int (m : Int) (h0 : 0 ≤ m) (h1 : m < 35184372088832) (w : World) :
    Calls Try.prog 17 #[.int .u64 m] w fun r w' => r = .returned (.tuple #[.agg #[.int .i64 (m / 4294967296 / 512), .int .i64 (m / 4294967296 / 32 % 16), .int .i64 (m / 4294967296 % 32), .int .i64 (m % 4294967296)], .int .i64 0]) ∧ Below w.heap.size w w' := by
  have H4 := Lib.hid two45
  have H3 := Lib.hid two32
  have hu : IntKind.u64.wrap 35184372088832 = 35184372088832 := by simp [IntKind.wrap, IntKind.bits, IntKind.signed]
  have hw : wrap64 m = m := IntWalk.wrap64_in _ (by omega)
  go_enter Try.func17, Try.ntmps17
  go_wp2_with (go_at_call 59; first | (with_reducible refine (H4.out _).mono ?_; rintro r w2 ⟨rfl, rfl⟩) | (with_reducible refine (H3.out _).mono ?_; rintro r w2 ⟨rfl, rfl⟩))
  refine bodyPost_ret (v := .tuple #[.agg #[.int .i64 (m / 4294967296 / 512), .int .i64 (m / 4294967296 / 32 % 16), .int .i64 (m / 4294967296 % 32), .int .i64 (m % 4294967296)], .int .i64 0]) (by simp [results, Try.results17, go_sem]) rfl ⟨rfl, ?_⟩
  go_grown
theorem unword_good (n : Nat) (hb : n < 35184372088832) (w : World) :
    Calls Try.prog 17 #[.int .u64 n] w fun r w' => r = .returned (.tuple #[cmdV n, .int .i64 0]) ∧ Below w.heap.size w w' := by
  have h := unword_int n (by omega) (by omega) w
  have e : (Value.agg #[.int .i64 ((n : Int) / 4294967296 / 512), .int .i64 ((n : Int) / 4294967296 / 32 % 16), .int .i64 ((n : Int) / 4294967296 % 32), .int .i64 ((n : Int) % 4294967296)]) = cmdV n := by
    unfold cmdV
    rw [show (n : Int) / 4294967296 / 512 = (n / 2199023255552 : Nat) by omega, show (n : Int) / 4294967296 / 32 % 16 = (n / 137438953472 % 16 : Nat) by omega, show (n : Int) / 4294967296 % 32 = (n / 4294967296 % 32 : Nat) by omega, show (n : Int) % 4294967296 = (n % 4294967296 : Nat) by omega]
  rwa [e] at h
end Go.Proofs.Ytkhfbleldchnpaa
