/- A machine of values, part 27: an own variable that is given up: seen by all, written by none; contracts of the shelf. -/
import Derived.Test.YtbpjinefbnlenaaGreatDoorAm25
namespace Go.Proofs.YtbpjinefbnlenaaGreatDoor
open Go Go.RowKit
set_option linter.unusedVariables false

section
variable {w : World} {G : Gh} {r : Nat} {x : AV} {fz' : Nat → Prop}
end
section
variable {P : Program} {w0 : World} {fz0 : Nat → Prop} {st : St} {Q : Exit → Act → World → Prop} {ops : Array Oper} {k : Nat}
end
theorem ai {a b : Prop} (x : a) (y : b) : a ∧ b := ⟨x, y⟩
theorem tv : True := trivial
end Go.Proofs.YtbpjinefbnlenaaGreatDoor
