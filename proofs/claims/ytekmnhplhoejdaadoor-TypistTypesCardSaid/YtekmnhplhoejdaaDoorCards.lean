/-
  DERIVED. GIVEN WITH THE SEED: THE CARDS: each row of YtekmnhplhoejdaaDoorRows.lean that lists a variable, with what it lists TIED to the program's text (the seventh form; the later family's looks); each row that meets fmt, with fmt's text TOLD by the authors' own Lean function (tested against real Go, not proved from fmt's source: count such statements apart). THE CARD IS WHAT COUNTS. Prove the row's statement (the work); the ties are given (YtekmnhplhoejdaaDoorTie.lean); close each card by the builder's one call (the guide's Derived/Test/ToyasCard.lean, 'card_holds'). Laid BY PROGRAM, IN A SANDBOX (cutbox-door.mjs). By AI agents, Wed Nov 11 2026. No macro, syntax, notation, axiom, sorry.
-/
import Derived.Test.YtekmnhplhoejdaaDoorRows
import GoSem.ClaimSeven
namespace Go.Proofs.YtekmnhplhoejdaaDoor
namespace Rows

/-- THE TIED CARD OF 'pluglaw.TypistTypes'. -/
def typistTypesCard : Claim7 := { stood := { row := typistTypesRow, standIns := [], harness := (true, "f4eb31711a454b5a9e03333e9c28480dd63f6384bcc169c443e1f6f0dd361a03"), looks := true }, kinds := [], alts := [], laidByText := true, laidKinds := [.data, .pinned], laidTests := true, laidLooks := .later }
def TypistTypesCardSaid : Prop := Claim7.holds Tryd.pinned (.plain (OpenSpec.ofChange typistTypesSpec)) typistTypesCard

/-- THE TIED CARD OF 'pluglaw.TalkSays'. -/
def talkSaysCard : Claim7 := { stood := { row := talkSaysRow, standIns := [], harness := (true, "f4eb31711a454b5a9e03333e9c28480dd63f6384bcc169c443e1f6f0dd361a03"), looks := true }, kinds := [], alts := [], laidByText := true, laidKinds := [.data, .pinned], laidTests := true, laidLooks := .later }
def TalkSaysCardSaid : Prop := Claim7.holds Tryd.pinned (.plain (OpenSpec.ofChange talkSaysSpec)) talkSaysCard

/-- THE TIED CARD OF 'pluglaw.HouseSheets'. -/
def houseSheetsCard : Claim7 := { stood := { row := houseSheetsRow, standIns := [], harness := (true, "f4eb31711a454b5a9e03333e9c28480dd63f6384bcc169c443e1f6f0dd361a03"), looks := true }, kinds := [], alts := [], laidByText := true, laidKinds := [.data, .data, .data], laidTests := true, laidLooks := .later }
def HouseSheetsCardSaid : Prop := Claim7.holds Tryd.pinned (.plain (OpenSpec.ofChange houseSheetsSpec)) houseSheetsCard

/-- THE TIED CARD OF 'pluglaw.RouteShows'. -/
def routeShowsCard : Claim7 := { stood := { row := routeShowsRow, standIns := [], harness := (true, "f4eb31711a454b5a9e03333e9c28480dd63f6384bcc169c443e1f6f0dd361a03"), looks := true }, kinds := [], alts := [], laidByText := true, laidKinds := [.data, .data, .data, .data, .sentinel, .sentinel, .pinned], laidTests := true, laidLooks := .later }
def RouteShowsCardSaid : Prop := Claim7.holds Tryd.pinned (.plain (OpenSpec.ofChange routeShowsSpec)) routeShowsCard

/-- THE SECOND FORM's CARD OF 'pluglaw.TypistTypes'. -/
def typistTypesUptoCard : Claim7 := { stood := { row := typistTypesUptoRow, standIns := [], harness := (true, "f4eb31711a454b5a9e03333e9c28480dd63f6384bcc169c443e1f6f0dd361a03"), looks := true }, kinds := [], alts := [], laidByText := true, laidKinds := [.data, .pinned], laidTests := true, laidLooks := .later }
def TypistTypesUptoCardSaid : Prop := Claim7.holds Tryd.pinned (.plain (OpenSpec.upto typistTypesSpec)) typistTypesUptoCard

/-- THE SECOND FORM's CARD OF 'pluglaw.TalkSays'. -/
def talkSaysUptoCard : Claim7 := { stood := { row := talkSaysUptoRow, standIns := [], harness := (true, "f4eb31711a454b5a9e03333e9c28480dd63f6384bcc169c443e1f6f0dd361a03"), looks := true }, kinds := [], alts := [], laidByText := true, laidKinds := [.data, .pinned], laidTests := true, laidLooks := .later }
def TalkSaysUptoCardSaid : Prop := Claim7.holds Tryd.pinned (.plain (OpenSpec.upto talkSaysSpec)) talkSaysUptoCard

/-- THE SECOND FORM's CARD OF 'pluglaw.HouseSheets'. -/
def houseSheetsUptoCard : Claim7 := { stood := { row := houseSheetsUptoRow, standIns := [], harness := (true, "f4eb31711a454b5a9e03333e9c28480dd63f6384bcc169c443e1f6f0dd361a03"), looks := true }, kinds := [], alts := [], laidByText := true, laidKinds := [.data, .data, .data], laidTests := true, laidLooks := .later }
def HouseSheetsUptoCardSaid : Prop := Claim7.holds Tryd.pinned (.plain (OpenSpec.upto houseSheetsSpec)) houseSheetsUptoCard

/-- THE SECOND FORM's CARD OF 'pluglaw.RouteShows'. -/
def routeShowsUptoCard : Claim7 := { stood := { row := routeShowsUptoRow, standIns := [], harness := (true, "f4eb31711a454b5a9e03333e9c28480dd63f6384bcc169c443e1f6f0dd361a03"), looks := true }, kinds := [], alts := [], laidByText := true, laidKinds := [.data, .data, .data, .data, .sentinel, .sentinel, .pinned], laidTests := true, laidLooks := .later }
def RouteShowsUptoCardSaid : Prop := Claim7.holds Tryd.pinned (.plain (OpenSpec.upto routeShowsSpec)) routeShowsUptoCard
end Rows
end Go.Proofs.YtekmnhplhoejdaaDoor
