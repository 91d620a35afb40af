/- The classes of kinds. -/
import Derived.Test.YtbeilpecdimheaaPacket
namespace Go.Proofs.Ytbeilpecdimheaa
set_option linter.unusedVariables false
set_option maxRecDepth 100000
/-- the five classes of kinds -/
inductive KCls (k : Int) : Prop
  | tok (h1 : tokK k = true) (h2 : datK k = false) (h3 : bareK k = false) (h4 : knownK k = true) (h5 : (k == 5) = false) (h6 : (k != 5) = true) (h7 : k ≠ 5)
  | dat (h1 : tokK k = false) (h2 : datK k = true) (h3 : bareK k = false) (h4 : knownK k = true) (h5 : (k == 5) = false) (h6 : (k != 5) = true) (h7 : k ≠ 5)
  | bare (h1 : tokK k = false) (h2 : datK k = false) (h3 : bareK k = true) (h4 : knownK k = true) (h5 : (k == 5) = false) (h6 : (k != 5) = true) (h7 : k ≠ 5)
  | sof (h1 : tokK k = false) (h2 : datK k = false) (h3 : bareK k = false) (h4 : knownK k = true) (h5 : (k == 5) = true) (h6 : (k != 5) = false) (h7 : k = 5)
  | other (h1 : tokK k = false) (h2 : datK k = false) (h3 : bareK k = false) (h4 : knownK k = false) (h5 : (k == 5) = false) (h6 : (k != 5) = true) (h7 : k ≠ 5)
theorem kcls (k : Int) : KCls k := by
  by_cases a1 : k = 1; · subst a1; exact .tok rfl rfl rfl rfl rfl rfl (by decide)
  by_cases a2 : k = 9; · subst a2; exact .tok rfl rfl rfl rfl rfl rfl (by decide)
  by_cases a3 : k = 13; · subst a3; exact .tok rfl rfl rfl rfl rfl rfl (by decide)
  by_cases a4 : k = 3; · subst a4; exact .dat rfl rfl rfl rfl rfl rfl (by decide)
  by_cases a5 : k = 11; · subst a5; exact .dat rfl rfl rfl rfl rfl rfl (by decide)
  by_cases a6 : k = 2; · subst a6; exact .bare rfl rfl rfl rfl rfl rfl (by decide)
  by_cases a7 : k = 10; · subst a7; exact .bare rfl rfl rfl rfl rfl rfl (by decide)
  by_cases a8 : k = 14; · subst a8; exact .bare rfl rfl rfl rfl rfl rfl (by decide)
  by_cases a9 : k = 5; · subst a9; exact .sof rfl rfl rfl rfl rfl rfl rfl
  exact .other (by simp [tokK, *]) (by simp [datK, *]) (by simp [bareK, *]) (by simp [knownK, tokK, datK, *]) (by simp [*]) (by simp [*]) a9


end Go.Proofs.Ytbeilpecdimheaa
