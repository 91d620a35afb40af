/- The law StoreCycles, in plain Lean. -/
import Derived.Test.YtbodjbpgdkkohaaSStoC
namespace Go.Proofs.Ytbodjbpgdkkohaa
open Go Go.RowKit
set_option linter.unusedVariables false

theorem cyc1 (b : Int) (D : List DTx) (sn tag wt wl : Int) (wIn : Bool) (wu : Int) (wc data : Tx) (fs : List Int) (h : D.length * 16 ≤ 140737488351232) : ∃ n, F5 n b D sn tag wt wl wIn wu wc data fs = some true :=
  ⟨D.length + 200001 + 200, cyclesN _ b D sn tag wt wl wIn wu wc data fs (by omega) (by omega)⟩
theorem storeCycles_says (a0 : Sh.T (.int .i64)) (g0 : Sh.good (.int .i64) a0) (v0 : Sh.rch (.int .i64) a0) (a1 : Sh.T (.st (.pair (.st (.pair (.sl .str) (.int .i64))) (.int .i64)))) (g1 : Sh.good (.st (.pair (.st (.pair (.sl .str) (.int .i64))) (.int .i64))) a1) (v1 : Sh.rch (.st (.pair (.st (.pair (.sl .str) (.int .i64))) (.int .i64))) a1) (a2 : Sh.T (.st (.pair (.int .i64) (.pair (.int .i64) (.pair .bool (.pair (.int .i64) .str)))))) (g2 : Sh.good (.st (.pair (.int .i64) (.pair (.int .i64) (.pair .bool (.pair (.int .i64) .str))))) a2) (v2 : Sh.rch (.st (.pair (.int .i64) (.pair (.int .i64) (.pair .bool (.pair (.int .i64) .str))))) a2) (a3 : Sh.T (.str)) (g3 : Sh.good (.str) a3) (v3 : Sh.rch (.str) a3) (a4 : Sh.T (.sl (.int .i64))) (g4 : Sh.good (.sl (.int .i64)) a4) (v4 : Sh.rch (.sl (.int .i64)) a4) :
    ∃ n, F5 n a0 a1.1.1 a1.1.2 a1.2 a2.1 a2.2.1 a2.2.2.1 a2.2.2.2.1 a2.2.2.2.2 a3 a4 = some true := by
  exact cyc1 a0 a1.1.1 a1.1.2 a1.2 a2.1 a2.2.1 a2.2.2.1 a2.2.2.2.1 a2.2.2.2.2 a3 a4 v1.1.1.1
end Go.Proofs.Ytbodjbpgdkkohaa
