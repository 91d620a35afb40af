/- Serve; in plain Lean: the law. -/
import Derived.Test.YtbodjbpgdkkohaaSServe3
namespace Go.Proofs.Ytbodjbpgdkkohaa
open Go Go.RowKit
set_option linter.unusedVariables false

theorem bulkServes_says (a0 : Sh.T ((.st (.pair (.sl .str) (.int .i64))))) (g0 : Sh.good ((.st (.pair (.sl .str) (.int .i64)))) a0) (v0 : Sh.rch ((.st (.pair (.sl .str) (.int .i64)))) a0) (a1 : Sh.T (.str)) (g1 : Sh.good (.str) a1) (v1 : Sh.rch (.str) a1) (a2 : Sh.T (.str)) (g2 : Sh.good (.str) a2) (v2 : Sh.rch (.str) a2) :
    ∃ n, F4 n a0.1 a0.2 a1 a2 = some true := by
  refine ⟨2000000 + (show List DTx from a0.1).length, ?_⟩
  have hD : (show List DTx from a0.1).length ≤ 8796093022208 := by
    have h : (show List DTx from a0.1).length * 16 ≤ 140737488351232 := v0.1.1
    omega
  have hd : (show DTx from a2).length ≤ 140737488355328 := by
    have h : (show DTx from a2).length ≤ 140737488351232 := v2
    omega
  obtain ⟨v, h1, h2, h3⟩ := serveN (2000000 + (show List DTx from a0.1).length) (by omega) a0.1 a0.2 a1 a2 hD hd
  unfold F4
  rw [h1, h2]
  simp only [Option.bind_some, F10]
  rw [eqBL _ v.1 (by rw [h3]; exact hD) (by rw [h3]; omega)]
  simp
end Go.Proofs.Ytbodjbpgdkkohaa
