/- A machine of values, part 23: plain laws on what the machine gives: no program in sight. -/
import Derived.Test.YtbpjinefbnlenaaGreatDoorAm22
namespace Go.Proofs.YtbpjinefbnlenaaGreatDoor
open Go Go.RowKit
set_option linter.unusedVariables false

theorem w64 {n : Int} (h1 : -9223372036854775808 ≤ n) (h2 : n ≤ 9223372036854775807) : IntKind.wrap .i64 n = n := by
  have e : IntKind.wrap .i64 n = if n % 18446744073709551616 ≥ 9223372036854775808 then n % 18446744073709551616 - 18446744073709551616 else n % 18446744073709551616 := by
    simp [IntKind.wrap, IntKind.bits, IntKind.signed]
  rw [e]
  split <;> omega
theorem loopF_post {D R : Type} (body : (D → Option R) → D → Option R) (I : D → Prop) (Q : D → R → Prop) (μ : D → Nat)
    (h : ∀ k d, I d → (∀ d', I d' → μ d' < μ d → ∃ r, k d' = some r ∧ Q d' r) → ∃ r, body k d = some r ∧ Q d r) : ∀ n d, I d → μ d < n → ∃ r, loopF body n d = some r ∧ Q d r
  | 0, d, _, hm => by omega
  | n + 1, d, hd, hm => h (loopF body n) d hd fun d' hd' hm' => loopF_post body I Q μ h n d' hd' (by omega)
theorem inb_true {i : Int} {n : Nat} (h1 : 0 ≤ i) (h2 : i < n) : inb i n = true := by
  unfold inb
  simp [h1, h2]
end Go.Proofs.YtbpjinefbnlenaaGreatDoor
