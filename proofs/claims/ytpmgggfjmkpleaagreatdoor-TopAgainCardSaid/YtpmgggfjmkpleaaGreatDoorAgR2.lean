/- TopAgain: runs of the symbolic exact machine. -/
import Derived.Test.YtpmgggfjmkpleaaGreatDoorAg2
namespace Go.Proofs.YtpmgggfjmkpleaaGreatDoor.E
theorem agNe0_4 : again (argNe 4 (.int .i64 0)) = true := by kernel_rfl
theorem agNe0_5 : again (argNe 5 (.int .i64 0)) = true := by kernel_rfl
theorem agNe0_6 : again (argNe 6 (.int .i64 0)) = true := by kernel_rfl
theorem agNe0_7 : again (argNe 7 (.int .i64 0)) = true := by kernel_rfl
end Go.Proofs.YtpmgggfjmkpleaaGreatDoor.E
