/- plugtop.lives() as a contract of the machine of values. -/
import Derived.Test.YtbpjinefbnlenaaGreatDoorLives
import Derived.Test.YtbpjinefbnlenaaGreatDoorAm27
namespace Go.Proofs.YtbpjinefbnlenaaGreatDoor
open Go Go.RowKit
set_option linter.unusedVariables false

theorem livesC : PureC Tryz.prog 5 [] (.bool true) [] := by
  intro w fz vs hfz ha
  have ha : vs = [] := ha
  subst ha
  refine (E.lives_true w).mono ?_
  rintro e w' ⟨rfl, hb⟩
  exact ⟨_, G0 fz, rfl, NewR.none hb, rfl⟩
end Go.Proofs.YtbpjinefbnlenaaGreatDoor
