/- TopAgain: runs of the symbolic exact machine. -/
import Derived.Test.YtpmgggfjmkpleaaGreatDoorAg2
namespace Go.Proofs.YtpmgggfjmkpleaaGreatDoor.E
theorem agEq0_3 : again (argEq 3 (.int .i64 0)) = true := by kernel_rfl
theorem agEq0_4 : again (argEq 4 (.int .i64 0)) = true := by kernel_rfl
theorem agEq0_5 : again (argEq 5 (.int .i64 0)) = true := by kernel_rfl
theorem agEq0_6 : again (argEq 6 (.int .i64 0)) = true := by kernel_rfl
end Go.Proofs.YtpmgggfjmkpleaaGreatDoor.E
