/- GadgetChecks, in plain Lean. -/
import Derived.Test.YtnibbbmjjdkkgaaSSheet
namespace Go.Proofs.Ytnibbbmjjdkkgaa
open Go Go.RowKit
set_option linter.unusedVariables false

theorem sumL_mem {α : Type} (f : α → Nat) : ∀ (l : List α) (x : α), x ∈ l → f x ≤ sumL f l
  | y :: l, x, h => by
    simp only [sumL]
    rcases List.mem_cons.1 h with rfl | h
    · omega
    · have := sumL_mem f l x h; omega
theorem gadgetChecks_says (a0 : Sh.T ((.st (.pair (.st (.pair (.int .i64) (.pair (.int .i64) (.pair (.int .i64) (.pair (.int .i64) (.pair (.int .i64) (.pair (.int .i64) (.pair (.int .i64) (.pair (.int .i64) (.pair (.int .i64) (.pair (.int .i64) (.pair (.int .i64) (.int .i64))))))))))))) (.pair (.st (.pair (.int .i64) (.pair (.int .i64) (.pair (.int .i64) (.pair (.int .i64) (.sl (.st (.pair (.int .i64) (.pair (.int .i64) (.pair (.int .i64) (.pair (.int .i64) (.pair (.sl .str) (.sl (.st (.pair (.int .i64) (.pair .bool (.pair (.int .i64) (.pair (.int .i64) (.int .i64))))))))))))))))))) (.sl .str)))))) (g0 : Sh.good ((.st (.pair (.st (.pair (.int .i64) (.pair (.int .i64) (.pair (.int .i64) (.pair (.int .i64) (.pair (.int .i64) (.pair (.int .i64) (.pair (.int .i64) (.pair (.int .i64) (.pair (.int .i64) (.pair (.int .i64) (.pair (.int .i64) (.int .i64))))))))))))) (.pair (.st (.pair (.int .i64) (.pair (.int .i64) (.pair (.int .i64) (.pair (.int .i64) (.sl (.st (.pair (.int .i64) (.pair (.int .i64) (.pair (.int .i64) (.pair (.int .i64) (.pair (.sl .str) (.sl (.st (.pair (.int .i64) (.pair .bool (.pair (.int .i64) (.pair (.int .i64) (.int .i64))))))))))))))))))) (.sl .str))))) a0) (u0 : Sh.bulk ((.st (.pair (.st (.pair (.int .i64) (.pair (.int .i64) (.pair (.int .i64) (.pair (.int .i64) (.pair (.int .i64) (.pair (.int .i64) (.pair (.int .i64) (.pair (.int .i64) (.pair (.int .i64) (.pair (.int .i64) (.pair (.int .i64) (.int .i64))))))))))))) (.pair (.st (.pair (.int .i64) (.pair (.int .i64) (.pair (.int .i64) (.pair (.int .i64) (.sl (.st (.pair (.int .i64) (.pair (.int .i64) (.pair (.int .i64) (.pair (.int .i64) (.pair (.sl .str) (.sl (.st (.pair (.int .i64) (.pair .bool (.pair (.int .i64) (.pair (.int .i64) (.int .i64))))))))))))))))))) (.sl .str))))) a0 ≤ 1048576) :
    ∃ n, F5 n a0.1.1 a0.1.2.1 a0.1.2.2.1 a0.1.2.2.2.1 a0.1.2.2.2.2.1 a0.1.2.2.2.2.2.1 a0.1.2.2.2.2.2.2.1 a0.1.2.2.2.2.2.2.2.1 a0.1.2.2.2.2.2.2.2.2.1 a0.1.2.2.2.2.2.2.2.2.2.1 a0.1.2.2.2.2.2.2.2.2.2.2.1 a0.1.2.2.2.2.2.2.2.2.2.2.2 a0.2.1.1 a0.2.1.2.1 a0.2.1.2.2.1 a0.2.1.2.2.2.1 a0.2.1.2.2.2.2 a0.2.2 = some true := by
  have ht : ∀ t ∈ a0.2.2, t.length ≤ 1048576 := by
    intro t ht
    have h1 := sumL_mem (Sh.bulk .str) a0.2.2 t ht
    have h2 : t.length + 1 ≤ sumL (Sh.bulk .str) a0.2.2 := h1
    simp only [Sh.bulk] at u0
    have h3 : sumL (fun x : Sh.T .str => x.length + 1) a0.2.2 = sumL (Sh.bulk .str) a0.2.2 := rfl
    omega
  refine ⟨3000000, ?_⟩
  obtain ⟨e, h1, h2⟩ := sheetS 3000000 (by omega) a0.1.1 a0.1.2.1 a0.1.2.2.1 a0.1.2.2.2.1 a0.1.2.2.2.2.1 a0.1.2.2.2.2.2.1 a0.1.2.2.2.2.2.2.1 a0.1.2.2.2.2.2.2.2.1 a0.1.2.2.2.2.2.2.2.2.1 a0.1.2.2.2.2.2.2.2.2.2.1 a0.1.2.2.2.2.2.2.2.2.2.2.1 a0.1.2.2.2.2.2.2.2.2.2.2.2 a0.2.1.1 a0.2.1.2.1 a0.2.1.2.2.1 a0.2.1.2.2.2.1 a0.2.1.2.2.2.2 a0.2.2 ht
  unfold F5
  rw [h1, h2]
  simp
end Go.Proofs.Ytnibbbmjjdkkgaa
