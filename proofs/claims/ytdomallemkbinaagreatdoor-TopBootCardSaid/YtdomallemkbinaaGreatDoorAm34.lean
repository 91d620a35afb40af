/- A machine of values, part 34: a row that a call hands back, from the kit's word on it. -/
import Derived.Test.YtdomallemkbinaaGreatDoorAm27
namespace Go.Proofs.YtdomallemkbinaaGreatDoor
open Go Go.RowKit
set_option linter.unusedVariables false

end Go.Proofs.YtdomallemkbinaaGreatDoor
