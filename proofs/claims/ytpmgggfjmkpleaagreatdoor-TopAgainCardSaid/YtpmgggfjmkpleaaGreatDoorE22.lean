/- An exact machine, part 22: what is asked of a program's functions, reckoned. -/
import Derived.Test.YtpmgggfjmkpleaaGreatDoorE21
namespace Go.Proofs.YtpmgggfjmkpleaaGreatDoor.E
open Go Go.RowKit
set_option linter.unusedVariables false

noncomputable def fnB (fn : Func) : Bool := match fn.body with
  | none => true
  | some c => dOk fn.ntmps c && fn.name != "runtime.NumGoroutine"
noncomputable def fnsB (P : Program) : Bool := List.rec true (fun fn _ ih => Bool.rec false ih (fnB fn)) P.funcs.toList
theorem fnsB_all : ∀ l : List Func, List.rec (motive := fun _ => Bool) true (fun fn _ ih => Bool.rec false ih (fnB fn)) l = true → ∀ fn ∈ l, fnB fn = true
  | [], _, fn, h => by cases h
  | g :: l, h, fn, hm => by
    obtain ⟨h1, h2⟩ := and_rec (show Bool.rec (motive := fun _ => Bool) false (List.rec (motive := fun _ => Bool) true (fun fn _ ih => Bool.rec false ih (fnB fn)) l) (fnB g) = true from h)
    rcases List.mem_cons.1 hm with rfl | hm
    · exact h1
    · exact fnsB_all l h2 fn hm
theorem FnsOK.of {P : Program} (h : fnsB P = true) : FnsOK P := by
  intro f fn c hf hb
  have h1 := fnsB_all _ h fn (by simpa using Array.mem_of_getElem? hf)
  unfold fnB at h1
  rw [hb] at h1
  simp only [Bool.and_eq_true, bne_iff_ne, ne_eq] at h1
  exact h1
end Go.Proofs.YtpmgggfjmkpleaaGreatDoor.E
