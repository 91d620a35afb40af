/- plugtop.lives() as a contract of the machine of values. -/
import Derived.Test.YtdomallemkbinaaGreatDoorLives
import Derived.Test.YtdomallemkbinaaGreatDoorAm27
namespace Go.Proofs.YtdomallemkbinaaGreatDoor
open Go Go.RowKit
set_option linter.unusedVariables false

theorem livesC : PureC Tryz.prog 7 [] (.bool true) [] := by
  intro w fz vs hfz ha
  have ha : vs = [] := ha
  subst ha
  refine (E.lives_true w).mono ?_
  rintro e w' ⟨rfl, hb⟩
  exact ⟨_, G0 fz, rfl, NewR.none hb, rfl⟩
end Go.Proofs.YtdomallemkbinaaGreatDoor
