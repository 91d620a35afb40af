/- TopAgain: runs of the symbolic exact machine. -/
import Derived.Test.YtpmgggfjmkpleaaGreatDoorAg2
namespace Go.Proofs.YtpmgggfjmkpleaaGreatDoor.E
theorem agNe1_7 : again (argNe 7 (lbaV 7)) = true := by kernel_rfl
theorem agEq0_0 : again (argEq 0 (.int .i64 0)) = true := by kernel_rfl
theorem agEq0_1 : again (argEq 1 (.int .i64 0)) = true := by kernel_rfl
theorem agEq0_2 : again (argEq 2 (.int .i64 0)) = true := by kernel_rfl
end Go.Proofs.YtpmgggfjmkpleaaGreatDoor.E
