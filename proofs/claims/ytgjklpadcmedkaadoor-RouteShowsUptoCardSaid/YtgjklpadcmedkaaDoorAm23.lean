/- A machine of values, part 23: plain laws on what the machine gives: no program in sight. -/
import Derived.Test.YtgjklpadcmedkaaDoorAm22
namespace Go.Proofs.YtgjklpadcmedkaaDoor
open Go Go.RowKit
set_option linter.unusedVariables false

theorem w64 {n : Int} (h1 : -9223372036854775808 ≤ n) (h2 : n ≤ 9223372036854775807) : IntKind.wrap .i64 n = n := by
  have e : IntKind.wrap .i64 n = if n % 18446744073709551616 ≥ 9223372036854775808 then n % 18446744073709551616 - 18446744073709551616 else n % 18446744073709551616 := by
    simp [IntKind.wrap, IntKind.bits, IntKind.signed]
  rw [e]
  split <;> omega
theorem w64_range (n : Int) : -9223372036854775808 ≤ IntKind.wrap .i64 n ∧ IntKind.wrap .i64 n ≤ 9223372036854775807 := by
  have e : IntKind.wrap .i64 n = if n % 18446744073709551616 ≥ 9223372036854775808 then n % 18446744073709551616 - 18446744073709551616 else n % 18446744073709551616 := by
    simp [IntKind.wrap, IntKind.bits, IntKind.signed]
  rw [e]
  split <;> omega
theorem good_i64 {n : Int} (h : Sh.good (.int .i64) n) : -9223372036854775808 ≤ n ∧ n ≤ 9223372036854775807 := by
  have h' : (Lit.int .i64 n).wf = true := h
  have e : IntKind.i64.min = -9223372036854775808 := by decide
  rw [← e]
  simpa [Lit.wf] using h'
theorem loopF_post {D R : Type} (body : (D → Option R) → D → Option R) (I : D → Prop) (Q : D → R → Prop) (μ : D → Nat)
    (h : ∀ k d, I d → (∀ d', I d' → μ d' < μ d → ∃ r, k d' = some r ∧ Q d' r) → ∃ r, body k d = some r ∧ Q d r) : ∀ n d, I d → μ d < n → ∃ r, loopF body n d = some r ∧ Q d r
  | 0, d, _, hm => by omega
  | n + 1, d, hd, hm => h (loopF body n) d hd fun d' hd' hm' => loopF_post body I Q μ h n d' hd' (by omega)
theorem loopF_rel {D D' R R' : Type} (body : (D → Option R) → D → Option R) (body' : (D' → Option R') → D' → Option R') (I : D → D' → Prop) (Q : R → R' → Prop) (μ : D → Nat)
    (h : ∀ k k' d d', I d d' → (∀ e e', I e e' → μ e < μ d → ∃ r r', k e = some r ∧ k' e' = some r' ∧ Q r r') → ∃ r r', body k d = some r ∧ body' k' d' = some r' ∧ Q r r') :
    ∀ n n' d d', I d d' → μ d < n → μ d < n' → ∃ r r', loopF body n d = some r ∧ loopF body' n' d' = some r' ∧ Q r r'
  | 0, _, d, _, _, hm, _ => by omega
  | _ + 1, 0, d, _, _, _, hm => by omega
  | n + 1, n' + 1, d, d', hd, hm, hm' => h (loopF body n) (loopF body' n') d d' hd fun e e' he hme => loopF_rel body body' I Q μ h n n' e e' he (by omega) (by omega)
theorem inb_true {i : Int} {n : Nat} (h1 : 0 ≤ i) (h2 : i < n) : inb i n = true := by
  unfold inb
  simp [h1, h2]
end Go.Proofs.YtgjklpadcmedkaaDoor
