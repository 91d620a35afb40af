/- plugtop.lives() answers true: the exact machine's run. -/
import Derived.Test.YtbpjinefbnlenaaGreatDoorE22
import Derived.Test.YtbpjinefbnlenaaGreatDoorShelf
namespace Go.Proofs.YtbpjinefbnlenaaGreatDoor.E
open Go Go.RowKit
set_option linter.unusedVariables false

noncomputable def spL : Nat → Option (List V → Nat → M → R) := fun f => Bool.rec (Bool.rec none (some spJoin) (Nat.beq f 32)) (some spRep) (Nat.beq f 17)
theorem spL_ok : SpOK Tryz.prog spL := by
  intro f h hf fl xs n m v n' m' e
  by_cases e1 : f = 17
  · subst e1
    obtain rfl := Option.some.inj (show some spRep = some h from hf)
    exact spRep_ok (by kernel_rfl) Tryz.strings_Repeat fl xs n m v n' m' e
  · by_cases e2 : f = 32
    · subst e2
      obtain rfl := Option.some.inj (show some spJoin = some h from hf)
      exact spJoin_ok (by kernel_rfl) Tryz.strings_Join_none Tryz.strings_Join fl xs n m v n' m' e
    · have b1 : Nat.beq f 17 = false := by cases h1 : Nat.beq f 17 with
        | true => exact absurd (Nat.eq_of_beq_eq_true h1) e1
        | false => rfl
      have b2 : Nat.beq f 32 = false := by cases h1 : Nat.beq f 32 with
        | true => exact absurd (Nat.eq_of_beq_eq_true h1) e2
        | false => rfl
      have hf : Bool.rec (motive := fun _ => Option (List V → Nat → M → R)) (Bool.rec none (some spJoin) (Nat.beq f 32)) (some spRep) (Nat.beq f 17) = some h := hf
      rw [b1, b2] at hf
      cases hf
theorem fns_ok : FnsOK Tryz.prog := FnsOK.of (by kernel_rfl)
theorem lives_run : isTrue (runF dr spL Tryz.prog 60 0 5 [] 0 (mem0 13)) = true := by kernel_rfl
theorem lives_true (w : World) : Calls Tryz.prog 5 #[] w fun e w' => e = .returned (.bool true) ∧ Below w.heap.size w w' :=
  whole_true (runF_ok (dr_ok (by kernel_rfl)) fns_ok spL_ok 60) lives_run w
end Go.Proofs.YtbpjinefbnlenaaGreatDoor.E
