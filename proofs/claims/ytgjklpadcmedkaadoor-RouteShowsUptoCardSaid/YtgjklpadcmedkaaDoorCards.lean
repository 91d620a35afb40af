/-
  DERIVED. GIVEN WITH THE SEED: THE CARDS: each row of YtgjklpadcmedkaaDoorRows.lean that lists a variable, with what it lists TIED to the program's text (the seventh form; the later family's looks); each row that meets fmt, with fmt's text TOLD by the authors' own Lean function (tested against real Go, not proved from fmt's source: count such statements apart). THE CARD IS WHAT COUNTS. Prove the row's statement (the work); the ties are given (YtgjklpadcmedkaaDoorTie.lean); close each card by the builder's one call (the guide's Derived/Test/ToyasCard.lean, 'card_holds'). Laid BY PROGRAM, IN A SANDBOX (cutbox-door.mjs). By AI agents, Wed Nov 11 2026. No macro, syntax, notation, axiom, sorry.
-/
import Derived.Test.YtgjklpadcmedkaaDoorRows
import GoSem.ClaimSeven
namespace Go.Proofs.YtgjklpadcmedkaaDoor
namespace Rows

/-- THE TIED CARD OF 'pluglaw.RouteShows'. -/
def routeShowsCard : Claim7 := { stood := { row := routeShowsRow, standIns := [], harness := (true, "98d1e2d33aeb078d757340832d200b16f2cf66d00828e268c988ec324786a1e4"), looks := true }, kinds := [], alts := [], laidByText := true, laidKinds := [.data, .data, .data, .data, .sentinel, .sentinel, .pinned], laidTests := true, laidLooks := .later }
def RouteShowsCardSaid : Prop := Claim7.holds Tryd.pinned (.plain (OpenSpec.ofChange routeShowsSpec)) routeShowsCard

/-- THE SECOND FORM's CARD OF 'pluglaw.RouteShows'. -/
def routeShowsUptoCard : Claim7 := { stood := { row := routeShowsUptoRow, standIns := [], harness := (true, "98d1e2d33aeb078d757340832d200b16f2cf66d00828e268c988ec324786a1e4"), looks := true }, kinds := [], alts := [], laidByText := true, laidKinds := [.data, .data, .data, .data, .sentinel, .sentinel, .pinned], laidTests := true, laidLooks := .later }
def RouteShowsUptoCardSaid : Prop := Claim7.holds Tryd.pinned (.plain (OpenSpec.upto routeShowsSpec)) routeShowsUptoCard
end Rows
end Go.Proofs.YtgjklpadcmedkaaDoor
