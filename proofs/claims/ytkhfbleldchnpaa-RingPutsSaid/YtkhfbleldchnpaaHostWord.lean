/- Contracts: Pack, Word, Unpack, Unword. -/
import Derived.Test.YtkhfbleldchnpaaKit
import Derived.Test.YtkhfbleldchnpaaTwo
import Derived.Deep.QuietTactic
import Derived.BigQuiet
namespace Go.Proofs.Ytkhfbleldchnpaa
open Go.RowKit
set_option linter.unusedVariables false
set_option maxRecDepth 100000

def inB (n : Int) (b : Nat) : Bool := decide (0 ≤ n) && decide (n < ((2 ^ b : Nat) : Int))
set_option maxHeartbeats 300000 in
theorem between_any (n a b : Int) (w : World) : Calls Try.prog 19 #[.int .i64 n, .int .i64 a, .int .i64 b] w fun e w' => e = .returned (.bool (decide (a ≤ n) && decide (n ≤ b))) ∧ w = w' := by
  go_enter Try.func19, Try.ntmps19
  go_wp2
  all_goals go_ret
  all_goals exact ⟨by simp [*] <;> omega, rfl⟩
set_option maxHeartbeats 300000 in
theorem in4_any (n : Int) (w : World) : Calls Try.prog 58 #[.int .i64 n, .int .i64 4] w fun e w' => e = .returned (.bool (inB n 4)) ∧ w = w' := by
  go_enter Try.func58, Try.ntmps58
  go_wp2
  all_goals go_ret
  all_goals exact ⟨by simp [inB, *] <;> omega, rfl⟩
set_option maxHeartbeats 300000 in
theorem in5_any (n : Int) (w : World) : Calls Try.prog 58 #[.int .i64 n, .int .i64 5] w fun e w' => e = .returned (.bool (inB n 5)) ∧ w = w' := by
  go_enter Try.func58, Try.ntmps58
  go_wp2
  all_goals go_ret
  all_goals exact ⟨by simp [inB, *] <;> omega, rfl⟩
set_option maxHeartbeats 300000 in
theorem in32_any (n : Int) (w : World) : Calls Try.prog 58 #[.int .i64 n, .int .i64 32] w fun e w' => e = .returned (.bool (inB n 32)) ∧ w = w' := by
  go_enter Try.func58, Try.ntmps58
  go_wp2
  all_goals go_ret
  all_goals exact ⟨by simp [inB, *] <;> omega, rfl⟩
theorem bt_any (n : Int) (m : Int) (b : Nat) (h : m + 1 = ((2 ^ b : Nat) : Int)) (w : World) : Calls Try.prog 19 #[.int .i64 n, .int .i64 0, .int .i64 m] w fun e w' => e = .returned (.bool (inB n b)) ∧ w = w' := by
  refine (between_any n 0 m w).mono ?_
  rintro r w' ⟨rfl, rfl⟩
  refine ⟨?_, rfl⟩
  have : decide (n ≤ m) = decide (n < ((2 ^ b : Nat) : Int)) := by rw [← h]; congr 1; apply propext; omega
  unfold inB
  rw [this]

theorem wrap_u64 (x : Nat) (h : x < 18446744073709551616) : IntKind.u64.wrap (x : Int) = x := by
  simp [IntKind.wrap, IntKind.bits, IntKind.signed]
  omega
theorem u64_or_nat (a b : Nat) (ha : a < 18446744073709551616) (hb : b < 18446744073709551616) : Go.bits .or .u64 (a : Int) (b : Int) = ((a ||| b : Nat) : Int) := by
  have hx : a ||| b < 2 ^ 64 := Nat.or_lt_two_pow (by omega) (by omega)
  show IntKind.u64.wrap ((BitVec.ofInt 64 (a : Int) ||| BitVec.ofInt 64 (b : Int)).toNat : Int) = _
  rw [BitVec.toNat_or, ofInt_u64 a (by omega), ofInt_u64 b (by omega), wrap_u64 _ (by omega)]
theorem pack_bits (k s e a : Nat) (hk : k < 16) (hs : s < 16) (he : e < 32) (ha : a < 4294967296) :
    Go.bits .or .u64 (Go.bits .or .u64 (Go.bits .or .u64 (a : Int) ((e : Int) * 4294967296)) ((s : Int) * 137438953472)) ((k : Int) * 2199023255552) = ((((k * 16 + s) * 32 + e) * 4294967296 + a : Nat) : Int) := by
  have e1 := u64_or_nat a (e * 4294967296) (by omega) (by omega)
  rw [or_add a e 32 (by omega)] at e1
  have e2 := u64_or_nat (a + e * 2 ^ 32) (s * 137438953472) (by omega) (by omega)
  rw [or_add (a + e * 2 ^ 32) s 37 (by omega)] at e2
  have e3 := u64_or_nat (a + e * 2 ^ 32 + s * 2 ^ 37) (k * 2199023255552) (by omega) (by omega)
  rw [or_add (a + e * 2 ^ 32 + s * 2 ^ 37) k 41 (by omega)] at e3
  rw [show ((e : Int) * 4294967296) = ((e * 4294967296 : Nat) : Int) by omega, e1,
    show ((s : Int) * 137438953472) = ((s * 137438953472 : Nat) : Int) by omega, e2,
    show ((k : Int) * 2199023255552) = ((k * 2199023255552 : Nat) : Int) by omega, e3]
  omega

set_option maxHeartbeats 300000 in
theorem pack_good (k s e a : Nat) (hk : k < 16) (hs : s < 16) (he : e < 32) (ha : a < 4294967296) (w : World) :
    Calls Try.prog 14 #[.agg #[.int .i64 k, .int .i64 s, .int .i64 e, .int .i64 a]] w fun r w' => r = .returned (.tuple #[.int .u64 (((k * 16 + s) * 32 + e) * 4294967296 + a : Nat), .int .i64 0]) ∧ Below w.heap.size w w' := by
  have h1 := in4_any k
  have h2 := in4_any s
  have h3 := in5_any e
  have h4 := in32_any a
  rw [show inB k 4 = true by simp [inB]; omega] at h1
  rw [show inB s 4 = true by simp [inB]; omega] at h2
  rw [show inB e 5 = true by simp [inB]; omega] at h3
  rw [show inB a 32 = true by simp [inB]; omega] at h4
  have H1 := Lib.hid h1
  have H2 := Lib.hid h2
  have H3 := Lib.hid h3
  have H4 := Lib.hid h4
  clear h1 h2 h3 h4
  go_enter Try.func14, Try.ntmps14
  go_wp2_with (go_at_call 58; first | (with_reducible refine (H1.out _).mono ?_; rintro r w2 ⟨rfl, rfl⟩) | (with_reducible refine (H2.out _).mono ?_; rintro r w2 ⟨rfl, rfl⟩) | (with_reducible refine (H3.out _).mono ?_; rintro r w2 ⟨rfl, rfl⟩) | (with_reducible refine (H4.out _).mono ?_; rintro r w2 ⟨rfl, rfl⟩))
  go_ret2
  exact ⟨ret_ii (pack_bits k s e a hk hs he ha) rfl, (Below.refl _ _).alloc (Nat.le_refl _) _⟩

set_option maxHeartbeats 2000000 in
theorem pack_bad (k s e a : Int) (hb : (inB k 4 && inB s 4 && inB e 5 && inB a 32) = false) (w : World) :
    Calls Try.prog 14 #[.agg #[.int .i64 k, .int .i64 s, .int .i64 e, .int .i64 a]] w fun r w' => r = .returned (.tuple #[.int .u64 0, .int .i64 1]) ∧ Below w.heap.size w w' := by
  have G : ∀ b1 b2 b3 b4 : Bool, (b1 && b2 && b3 && b4) = false → (∀ w, Calls Try.prog 58 #[.int .i64 k, .int .i64 4] w fun e w' => e = .returned (.bool b1) ∧ w = w') → (∀ w, Calls Try.prog 58 #[.int .i64 s, .int .i64 4] w fun e w' => e = .returned (.bool b2) ∧ w = w') → (∀ w, Calls Try.prog 58 #[.int .i64 e, .int .i64 5] w fun e w' => e = .returned (.bool b3) ∧ w = w') → (∀ w, Calls Try.prog 58 #[.int .i64 a, .int .i64 32] w fun e w' => e = .returned (.bool b4) ∧ w = w') →
      Calls Try.prog 14 #[.agg #[.int .i64 k, .int .i64 s, .int .i64 e, .int .i64 a]] w fun r w' => r = .returned (.tuple #[.int .u64 0, .int .i64 1]) ∧ Below w.heap.size w w' := by
    intro b1 b2 b3 b4 hb h1 h2 h3 h4
    have H1 := Lib.hid h1
    have H2 := Lib.hid h2
    have H3 := Lib.hid h3
    have H4 := Lib.hid h4
    clear h1 h2 h3 h4
    obtain rfl | ⟨rfl, rfl | ⟨rfl, rfl | ⟨rfl, rfl⟩⟩⟩ : b1 = false ∨ (b1 = true ∧ (b2 = false ∨ (b2 = true ∧ (b3 = false ∨ (b3 = true ∧ b4 = false))))) := by revert hb; cases b1 <;> cases b2 <;> cases b3 <;> cases b4 <;> decide
    all_goals
      clear hb
      go_enter Try.func14, Try.ntmps14
      go_wp2_with (go_at_call 58; first | (with_reducible refine (H1.out _).mono ?_; rintro r w2 ⟨rfl, rfl⟩) | (with_reducible refine (H2.out _).mono ?_; rintro r w2 ⟨rfl, rfl⟩) | (with_reducible refine (H3.out _).mono ?_; rintro r w2 ⟨rfl, rfl⟩) | (with_reducible refine (H4.out _).mono ?_; rintro r w2 ⟨rfl, rfl⟩))
      go_ret2
      exact ⟨rfl, (Below.refl _ _).alloc (Nat.le_refl _) _⟩
  exact G _ _ _ _ hb (in4_any k) (in4_any s) (in5_any e) (in32_any a)

theorem two32 (w : World) : Calls Try.prog 59 #[.int .i64 32] w fun e w' => e = .returned (.int .i64 4294967296) ∧ w = w' := two_any 32 (by decide) w

set_option maxHeartbeats 2000000 in
theorem word_bad (k s e a : Int) (hb : (inB k 4 && inB s 4 && inB e 5 && inB a 32) = false) (w : World) :
    Calls Try.prog 15 #[.agg #[.int .i64 k, .int .i64 s, .int .i64 e, .int .i64 a]] w fun r w' => r = .returned (.tuple #[.int .u64 0, .int .i64 1]) ∧ Below w.heap.size w w' := by
  have G : ∀ b1 b2 b3 b4 : Bool, (b1 && b2 && b3 && b4) = false → (∀ w, Calls Try.prog 19 #[.int .i64 k, .int .i64 0, .int .i64 15] w fun e w' => e = .returned (.bool b1) ∧ w = w') → (∀ w, Calls Try.prog 19 #[.int .i64 s, .int .i64 0, .int .i64 15] w fun e w' => e = .returned (.bool b2) ∧ w = w') → (∀ w, Calls Try.prog 19 #[.int .i64 e, .int .i64 0, .int .i64 31] w fun e w' => e = .returned (.bool b3) ∧ w = w') → (∀ w, Calls Try.prog 19 #[.int .i64 a, .int .i64 0, .int .i64 4294967295] w fun e w' => e = .returned (.bool b4) ∧ w = w') →
      Calls Try.prog 15 #[.agg #[.int .i64 k, .int .i64 s, .int .i64 e, .int .i64 a]] w fun r w' => r = .returned (.tuple #[.int .u64 0, .int .i64 1]) ∧ Below w.heap.size w w' := by
    intro b1 b2 b3 b4 hb h1 h2 h3 h4
    have H1 := Lib.hid h1
    have H2 := Lib.hid h2
    have H3 := Lib.hid h3
    have H4 := Lib.hid h4
    clear h1 h2 h3 h4
    have HT := Lib.hid two32
    obtain rfl | ⟨rfl, rfl | ⟨rfl, rfl | ⟨rfl, rfl⟩⟩⟩ : b1 = false ∨ (b1 = true ∧ (b2 = false ∨ (b2 = true ∧ (b3 = false ∨ (b3 = true ∧ b4 = false))))) := by revert hb; cases b1 <;> cases b2 <;> cases b3 <;> cases b4 <;> decide
    all_goals
      clear hb
      go_enter Try.func15, Try.ntmps15
      go_wp2_with fail
      go_quiet (first | (go_at_call 19; first | (with_reducible exact quiet_same (H1.out _)) | (with_reducible exact quiet_same (H2.out _)) | (with_reducible exact quiet_same (H3.out _)) | (with_reducible exact quiet_same (H4.out _))) | (go_at_call 59; with_reducible exact quiet_same (HT.out _)))
      go_wp2_with fail
      go_ret2
      exact ⟨rfl, ((Below.refl _ _).alloc (Nat.le_refl _) _).trans (below_drewN _ _ _)⟩
  exact G _ _ _ _ hb (bt_any k 15 4 rfl) (bt_any s 15 4 rfl) (bt_any e 31 5 rfl) (bt_any a 4294967295 32 rfl)
end Go.Proofs.Ytkhfbleldchnpaa
