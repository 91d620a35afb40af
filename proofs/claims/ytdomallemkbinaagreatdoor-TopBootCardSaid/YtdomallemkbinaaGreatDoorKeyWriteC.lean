/- keys.Write: the contract, as the machine takes it. -/
import Derived.Test.YtdomallemkbinaaGreatDoorKeyWrite
import Derived.Test.YtdomallemkbinaaGreatDoorKeyDiffC
namespace Go.Proofs.YtdomallemkbinaaGreatDoor
open Go Go.RowKit
set_option linter.unusedVariables false

theorem write_ok (h : BitsL) : PureC Tryz.prog 6 [.st (.arr 4 (.int .u64) h)] (.tup (.cons (.str (keysWriteV h).1) (.cons (.int .i64 (keysWriteV h).2) .nil))) [] := by
  intro w fz vs hfz ha
  obtain ⟨v1, t1, rfl, ⟨c1, rfl, h2⟩, h4⟩ := ha
  simp only [ArgsR] at h4
  subst h4
  obtain ⟨a0, a1, a2, a3, rfl, rfl⟩ := arr4 h2
  refine (write_calls a0 a1 a2 a3 w).mono ?_
  rintro e W' ⟨rfl, hb⟩
  exact ⟨_, G0 fz, rfl, NewR.none hb, _, rfl, _, _, rfl, rfl, _, _, rfl, rfl, rfl⟩
end Go.Proofs.YtdomallemkbinaaGreatDoor
