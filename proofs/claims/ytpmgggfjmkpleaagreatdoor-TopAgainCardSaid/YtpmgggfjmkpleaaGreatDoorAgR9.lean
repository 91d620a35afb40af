/- TopAgain: runs of the symbolic exact machine. -/
import Derived.Test.YtpmgggfjmkpleaaGreatDoorAg2
namespace Go.Proofs.YtpmgggfjmkpleaaGreatDoor.E
theorem agEq1_6 : again (argEq 6 (lbaV 6)) = true := by kernel_rfl
theorem agEq1_7 : again (argEq 7 (lbaV 7)) = true := by kernel_rfl
end Go.Proofs.YtpmgggfjmkpleaaGreatDoor.E
