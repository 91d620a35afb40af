/- TopAgain: runs of the symbolic exact machine. -/
import Derived.Test.YtpmgggfjmkpleaaGreatDoorAg2
namespace Go.Proofs.YtpmgggfjmkpleaaGreatDoor.E
theorem agNe1_3 : again (argNe 3 (lbaV 3)) = true := by kernel_rfl
theorem agNe1_4 : again (argNe 4 (lbaV 4)) = true := by kernel_rfl
theorem agNe1_5 : again (argNe 5 (lbaV 5)) = true := by kernel_rfl
theorem agNe1_6 : again (argNe 6 (lbaV 6)) = true := by kernel_rfl
end Go.Proofs.YtpmgggfjmkpleaaGreatDoor.E
