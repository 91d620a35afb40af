/- TopAgain: runs of the symbolic exact machine. -/
import Derived.Test.YtpmgggfjmkpleaaGreatDoorAg2
namespace Go.Proofs.YtpmgggfjmkpleaaGreatDoor.E
theorem agNe0_8 : again (argNe 8 (.int .i64 0)) = true := by kernel_rfl
theorem agNe1_0 : again (argNe 0 (lbaV 0)) = true := by kernel_rfl
theorem agNe1_1 : again (argNe 1 (lbaV 1)) = true := by kernel_rfl
theorem agNe1_2 : again (argNe 2 (lbaV 2)) = true := by kernel_rfl
end Go.Proofs.YtpmgggfjmkpleaaGreatDoor.E
