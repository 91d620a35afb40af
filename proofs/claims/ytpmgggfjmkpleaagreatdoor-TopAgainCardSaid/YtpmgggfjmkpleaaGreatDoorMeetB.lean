/- greet.Meet at the sheets of disks: runs of the symbolic exact machine. -/
import Derived.Test.YtpmgggfjmkpleaaGreatDoorMeet2
namespace Go.Proofs.YtpmgggfjmkpleaaGreatDoor.E
theorem meet4 : meetR 4 = true := by kernel_rfl
theorem meet5 : meetR 5 = true := by kernel_rfl
theorem meet6 : meetR 6 = true := by kernel_rfl
theorem meet7 : meetR 7 = true := by kernel_rfl
end Go.Proofs.YtpmgggfjmkpleaaGreatDoor.E
