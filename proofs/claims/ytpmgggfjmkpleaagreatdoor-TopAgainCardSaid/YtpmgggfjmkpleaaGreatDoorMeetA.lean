/- greet.Meet at the sheets of disks: runs of the symbolic exact machine. -/
import Derived.Test.YtpmgggfjmkpleaaGreatDoorMeet2
namespace Go.Proofs.YtpmgggfjmkpleaaGreatDoor.E
theorem meet0 : meetR 0 = true := by kernel_rfl
theorem meet1 : meetR 1 = true := by kernel_rfl
theorem meet2 : meetR 2 = true := by kernel_rfl
theorem meet3 : meetR 3 = true := by kernel_rfl
end Go.Proofs.YtpmgggfjmkpleaaGreatDoor.E
