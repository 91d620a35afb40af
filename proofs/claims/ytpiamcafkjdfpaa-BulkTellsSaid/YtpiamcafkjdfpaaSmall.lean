/- Contracts of small functions: Between, TwoBytes, long, is32. -/
import Derived.Test.YtpiamcafkjdfpaaKit
import Derived.Test.YtpiamcafkjdfpaaTwo
namespace Go.Proofs.Ytpiamcafkjdfpaa
open Go.RowKit
set_option linter.unusedVariables false

set_option maxRecDepth 100000
theorem between_any (n a b : Int) (w : World) : Calls Try.prog 25 #[.int .i64 n, .int .i64 a, .int .i64 b] w fun e w' => e = .returned (.bool (decide (a ≤ n ∧ n ≤ b))) ∧ w = w' := by
  go_enter Try.func25, Try.ntmps25
  go_wp2
  all_goals go_ret
  all_goals exact ⟨ret_b (by simp [*] <;> omega), rfl⟩

def twoL (n : Nat) : List UInt8 := [UInt8.ofNat n, UInt8.ofNat (n / 256)]
theorem twoBytes_any (n : Nat) (h : n ≤ 9223372036854775807) (w : World) : Calls Try.prog 88 #[.int .i64 n] w fun e w' => e = .returned (.string ⟨(twoL n).toArray⟩) ∧ Below w.heap.size w w' := by
  have hc := conv2 (P := Try.prog) Try.underlying91 Try.underlying5 Try.underlying9
  go_enter Try.func88, Try.ntmps88
  go_wp2
  go_ret
  exact ⟨ret_s (nums_eq (nums2 (by omega) (by omega))), (Below.refl _ _).alloc (Nat.le_refl _) _⟩

def lowL (n : Nat) : List UInt8 := [UInt8.ofNat n, UInt8.ofNat (n / 256), UInt8.ofNat (n / 65536), UInt8.ofNat (n / 16777216)]
theorem low_any (n : Nat) (h : n ≤ 4294967295) (w : World) : Calls Try.prog 54 #[.int .i64 n] w fun e w' => e = .returned (.string ⟨(lowL n).toArray⟩) ∧ Below w.heap.size w w' := by
  have h1 := twoBytes_any (n % 65536) (by omega)
  have h2 := twoBytes_any (n / 65536) (by omega)
  have e : twoL (n % 65536) ++ twoL (n / 65536) = lowL n := by
    simp only [twoL, lowL, List.cons_append, List.nil_append]
    have e1 : UInt8.ofNat (n % 65536) = UInt8.ofNat n := by apply UInt8.toNat.inj; simp <;> omega
    have e2 : UInt8.ofNat (n % 65536 / 256) = UInt8.ofNat (n / 256) := by apply UInt8.toNat.inj; simp <;> omega
    rw [e1, e2, Nat.div_div_eq_div_mul]
  have E := str_append (twoL (n % 65536)) (twoL (n / 65536))
  rw [e] at E
  have z1 : (twoL (n % 65536)).length ≤ 2 := Nat.le_refl _
  have z2 : (twoL (n / 65536)).length ≤ 2 := Nat.le_refl _
  generalize twoL (n % 65536) = l1 at *
  generalize twoL (n / 65536) = l2 at *
  have HE := Lib.hid E
  have H1 := Lib.hid h1
  have H2 := Lib.hid h2
  clear h1 h2 E e
  go_enter Try.func54, Try.ntmps54
  go_wp2_with fail
  refine (H1.out _).mono ?_
  rintro r w1 ⟨rfl, hb1⟩
  go_wp2_with fail
  refine (H2.out _).mono ?_
  rintro r w2 ⟨rfl, hb2⟩
  go_wp2_with fail
  go_ret
  exact ⟨ret_s HE.out, hb1.trans (hb2.mono hb1.size)⟩

theorem is32_any (n : Int) (w : World) : Calls Try.prog 50 #[.int .i64 n] w fun e w' => e = .returned (.bool (decide (0 ≤ n ∧ n ≤ 4294967295))) ∧ w = w' := by
  go_enter Try.func50, Try.ntmps50
  go_wp2
  all_goals go_ret
  all_goals exact ⟨ret_b (by simp [*] <;> omega), rfl⟩
theorem longR_any (n : Int) (w : World) : Calls Try.prog 52 #[.int .i64 n] w fun e w' => e = .returned (.bool (decide (0 ≤ n ∧ n ≤ 4294967295))) ∧ w = w' := by
  have h1 := fun w0 => two_any 32 (by decide) w0
  simp only [Int.cast_ofNat_Int] at h1
  have H1 := Lib.hid h1
  clear h1
  go_enter Try.func52, Try.ntmps52
  go_wp2_with (first | (go_at_call 69; refine (H1.out _).mono ?_; rintro r w1 ⟨rfl, rfl⟩) | (go_at_call 25; refine (between_any _ _ _ _).mono ?_; rintro r w1 ⟨rfl, rfl⟩))
  all_goals go_ret
  all_goals exact ⟨ret_b (by simp), rfl⟩
theorem longP_any (n : Nat) (h : n ≤ 4294967295) (w : World) : Calls Try.prog 51 #[.int .i64 n] w fun e w' => e = .returned (.string ⟨(lowL n).toArray⟩) ∧ Below w.heap.size w w' := by
  have hc := conv4 (P := Try.prog) Try.underlying91 Try.underlying5 Try.underlying9
  go_enter Try.func51, Try.ntmps51
  go_wp2
  go_ret
  exact ⟨ret_s (nums_eq (nums4 (by omega) (by omega) (by omega) (by omega))), (Below.refl _ _).alloc (Nat.le_refl _) _⟩
end Go.Proofs.Ytpiamcafkjdfpaa
