/- TopAgain: runs of the symbolic exact machine. -/
import Derived.Test.YtpmgggfjmkpleaaGreatDoorAg2
namespace Go.Proofs.YtpmgggfjmkpleaaGreatDoor.E
theorem agEq1_2 : again (argEq 2 (lbaV 2)) = true := by kernel_rfl
theorem agEq1_3 : again (argEq 3 (lbaV 3)) = true := by kernel_rfl
theorem agEq1_4 : again (argEq 4 (lbaV 4)) = true := by kernel_rfl
theorem agEq1_5 : again (argEq 5 (lbaV 5)) = true := by kernel_rfl
end Go.Proofs.YtpmgggfjmkpleaaGreatDoor.E
