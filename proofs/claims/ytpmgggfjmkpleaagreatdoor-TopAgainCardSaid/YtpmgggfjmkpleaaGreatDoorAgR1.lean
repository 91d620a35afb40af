/- TopAgain: runs of the symbolic exact machine. -/
import Derived.Test.YtpmgggfjmkpleaaGreatDoorAg2
namespace Go.Proofs.YtpmgggfjmkpleaaGreatDoor.E
theorem agNe0_0 : again (argNe 0 (.int .i64 0)) = true := by kernel_rfl
theorem agNe0_1 : again (argNe 1 (.int .i64 0)) = true := by kernel_rfl
theorem agNe0_2 : again (argNe 2 (.int .i64 0)) = true := by kernel_rfl
theorem agNe0_3 : again (argNe 3 (.int .i64 0)) = true := by kernel_rfl
end Go.Proofs.YtpmgggfjmkpleaaGreatDoor.E
