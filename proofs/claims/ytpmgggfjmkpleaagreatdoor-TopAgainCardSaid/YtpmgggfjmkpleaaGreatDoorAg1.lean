/- TopAgain: the machine with its given calls (lives, greet.Meet), and what a run of it says. -/
import Derived.Test.YtpmgggfjmkpleaaGreatDoorMeet2
namespace Go.Proofs.YtpmgggfjmkpleaaGreatDoor.E
open Go Go.RowKit
set_option linter.unusedVariables false

theorem lives_run : isTrue (callM 0 5 [] 0 (mem0 13)) = true := by kernel_rfl
theorem lives_true (w : World) : Calls Tryz.prog 5 #[] w fun e w' => e = .returned (.bool true) ∧ Below w.heap.size w w' := whole_true callM_ok lives_run w
end Go.Proofs.YtpmgggfjmkpleaaGreatDoor.E
