/- TopAgain: runs of the symbolic exact machine. -/
import Derived.Test.YtpmgggfjmkpleaaGreatDoorAg2
namespace Go.Proofs.YtpmgggfjmkpleaaGreatDoor.E
theorem agEq0_7 : again (argEq 7 (.int .i64 0)) = true := by kernel_rfl
theorem agEq0_8 : again (argEq 8 (.int .i64 0)) = true := by kernel_rfl
theorem agEq1_0 : again (argEq 0 (lbaV 0)) = true := by kernel_rfl
theorem agEq1_1 : again (argEq 1 (lbaV 1)) = true := by kernel_rfl
end Go.Proofs.YtpmgggfjmkpleaaGreatDoor.E
