/- TopAgain: the runs together. -/
import Derived.Test.YtpmgggfjmkpleaaGreatDoorMeetA
import Derived.Test.YtpmgggfjmkpleaaGreatDoorMeetB
import Derived.Test.YtpmgggfjmkpleaaGreatDoorAgR1
import Derived.Test.YtpmgggfjmkpleaaGreatDoorAgR2
import Derived.Test.YtpmgggfjmkpleaaGreatDoorAgR3
import Derived.Test.YtpmgggfjmkpleaaGreatDoorAgR4
import Derived.Test.YtpmgggfjmkpleaaGreatDoorAgR5
import Derived.Test.YtpmgggfjmkpleaaGreatDoorAgR6
import Derived.Test.YtpmgggfjmkpleaaGreatDoorAgR7
import Derived.Test.YtpmgggfjmkpleaaGreatDoorAgR8
import Derived.Test.YtpmgggfjmkpleaaGreatDoorAgR9
import Derived.Test.YtpmgggfjmkpleaaGreatDoorAg4
namespace Go.Proofs.YtpmgggfjmkpleaaGreatDoor.E
open Go Go.RowKit
set_option linter.unusedVariables false

theorem meetAll : MeetAll := by
  intro s hs
  match s, hs with
  | 0, _ => exact meet0
  | 1, _ => exact meet1
  | 2, _ => exact meet2
  | 3, _ => exact meet3
  | 4, _ => exact meet4
  | 5, _ => exact meet5
  | 6, _ => exact meet6
  | 7, _ => exact meet7

theorem agNe0 : ∀ n, n < 9 → again (argNe n (.int .i64 0)) = true := by
  intro n hn
  match n, hn with
  | 0, _ => exact agNe0_0
  | 1, _ => exact agNe0_1
  | 2, _ => exact agNe0_2
  | 3, _ => exact agNe0_3
  | 4, _ => exact agNe0_4
  | 5, _ => exact agNe0_5
  | 6, _ => exact agNe0_6
  | 7, _ => exact agNe0_7
  | 8, _ => exact agNe0_8
theorem agNe1 : ∀ n, n < 8 → again (argNe n (lbaV n)) = true := by
  intro n hn
  match n, hn with
  | 0, _ => exact agNe1_0
  | 1, _ => exact agNe1_1
  | 2, _ => exact agNe1_2
  | 3, _ => exact agNe1_3
  | 4, _ => exact agNe1_4
  | 5, _ => exact agNe1_5
  | 6, _ => exact agNe1_6
  | 7, _ => exact agNe1_7
theorem agEq0 : ∀ n, n < 9 → again (argEq n (.int .i64 0)) = true := by
  intro n hn
  match n, hn with
  | 0, _ => exact agEq0_0
  | 1, _ => exact agEq0_1
  | 2, _ => exact agEq0_2
  | 3, _ => exact agEq0_3
  | 4, _ => exact agEq0_4
  | 5, _ => exact agEq0_5
  | 6, _ => exact agEq0_6
  | 7, _ => exact agEq0_7
  | 8, _ => exact agEq0_8
theorem agEq1 : ∀ n, n < 8 → again (argEq n (lbaV n)) = true := by
  intro n hn
  match n, hn with
  | 0, _ => exact agEq1_0
  | 1, _ => exact agEq1_1
  | 2, _ => exact agEq1_2
  | 3, _ => exact agEq1_3
  | 4, _ => exact agEq1_4
  | 5, _ => exact agEq1_5
  | 6, _ => exact agEq1_6
  | 7, _ => exact agEq1_7
theorem runs : Runs := ⟨meetAll, agNe0, agNe1, agEq0, agEq1⟩
end Go.Proofs.YtpmgggfjmkpleaaGreatDoor.E
