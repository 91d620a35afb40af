/- Commands of a disk: the law. -/
import Derived.Test.YtbodjbpgdkkohaaSScsi4
namespace Go.Proofs.Ytbodjbpgdkkohaa
open Go Go.RowKit
set_option linter.unusedVariables false

theorem scsiDoes_says (a0 : Sh.T ((.st (.pair (.sl .str) (.int .i64))))) (g0 : Sh.good ((.st (.pair (.sl .str) (.int .i64)))) a0) (v0 : Sh.rch ((.st (.pair (.sl .str) (.int .i64)))) a0) (a1 : Sh.T (.str)) (g1 : Sh.good (.str) a1) (v1 : Sh.rch (.str) a1) (a2 : Sh.T (.str)) (g2 : Sh.good (.str) a2) (v2 : Sh.rch (.str) a2) :
    ∃ n, F3 n a0.1 a0.2 a1 a2 = some true := by
  refine ⟨2000000 + (show List DTx from a0.1).length, ?_⟩
  have hD : (show List DTx from a0.1).length ≤ 8796093022208 := by
    have h : (show List DTx from a0.1).length * 16 ≤ 140737488351232 := v0.1.1
    omega
  have hd : (show DTx from a2).length ≤ 140737488355328 := by
    have h : (show DTx from a2).length ≤ 140737488351232 := v2
    omega
  unfold F3
  rw [doP _ (by omega) a0.1 a0.2 a1 a2 hD hd, doR _ (by omega) a0.1 a0.2 a1 a2 hd]
  simp only [Option.bind_some, F10]
  rw [eqBL _ _ (by rw [doV_len]; exact hD) (by rw [doV_len]; omega)]
  simp
end Go.Proofs.Ytbodjbpgdkkohaa
