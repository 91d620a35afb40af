/-
  DERIVED. GIVEN WITH THE SEED: THE CARDS: each row of YtdomallemkbinaaGreatDoorRows.lean that lists a variable, with what it lists TIED to the program's text (the seventh form; the later family's looks); each row that meets fmt, with fmt's text TOLD by the authors' own Lean function (tested against real Go, not proved from fmt's source: count such statements apart). THE CARD IS WHAT COUNTS. Prove the row's statement (the work); the ties are given (YtdomallemkbinaaGreatDoorTie.lean); close each card by the builder's one call (the guide's Derived/Test/ToyasCard.lean, 'card_holds'). Laid BY PROGRAM, IN A SANDBOX (cutbox-door.mjs). By AI agents, Wed Nov 11 2026. No macro, syntax, notation, axiom, sorry.
-/
import Derived.Test.YtdomallemkbinaaGreatDoorRows
import GoSem.ClaimSeven
namespace Go.Proofs.YtdomallemkbinaaGreatDoor
namespace Rows

/-- THE TIED CARD OF 'plugtop.TopBoot'. -/
def topBootCard : Claim7 := { stood := { row := topBootRow, standIns := [], harness := (true, "fbd3c4a727175e575861b4765166307efdf5a02d26108ff9e8b04ca5cc26d730"), looks := true }, kinds := [], alts := [], laidByText := true, laidKinds := [.data, .data, .data], laidTests := true, laidLooks := .later }
def TopBootCardSaid : Prop := Claim7.holds Tryz.pinned (.plain (OpenSpec.ofChange topBootSpec)) topBootCard

/-- THE SECOND FORM's CARD OF 'plugtop.TopBoot'. -/
def topBootUptoCard : Claim7 := { stood := { row := topBootUptoRow, standIns := [], harness := (true, "fbd3c4a727175e575861b4765166307efdf5a02d26108ff9e8b04ca5cc26d730"), looks := true }, kinds := [], alts := [], laidByText := true, laidKinds := [.data, .data, .data], laidTests := true, laidLooks := .later }
def TopBootUptoCardSaid : Prop := Claim7.holds Tryz.pinned (.plain (OpenSpec.upto topBootSpec)) topBootUptoCard
end Rows
end Go.Proofs.YtdomallemkbinaaGreatDoor
