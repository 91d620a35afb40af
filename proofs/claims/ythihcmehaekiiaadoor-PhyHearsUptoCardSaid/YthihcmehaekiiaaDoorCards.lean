/-
  DERIVED. GIVEN WITH THE SEED: THE CARDS: each row of YthihcmehaekiiaaDoorRows.lean that lists a variable, with what it lists TIED to the program's text (the seventh form; the later family's looks); each row that meets fmt, with fmt's text TOLD by the authors' own Lean function (tested against real Go, not proved from fmt's source: count such statements apart). THE CARD IS WHAT COUNTS. Prove the row's statement (the work); the ties are given (YthihcmehaekiiaaDoorTie.lean); close each card by the builder's one call (the guide's Derived/Test/ToyasCard.lean, 'card_holds'). Laid BY PROGRAM, IN A SANDBOX (cutbox-door.mjs). By AI agents, Wed Nov 11 2026. No macro, syntax, notation, axiom, sorry.
-/
import Derived.Test.YthihcmehaekiiaaDoorRows
import GoSem.ClaimSeven
namespace Go.Proofs.YthihcmehaekiiaaDoor
namespace Rows

/-- THE TIED CARD OF 'pluglaw.LaneTurns'. -/
def laneTurnsCard : Claim7 := { stood := { row := laneTurnsRow, standIns := [], harness := (true, "4815d90a3849dec0429973a1b07cb6c36b66d2037f147d30bdfc7ff5a08f0865"), looks := false }, kinds := [], alts := [], laidByText := true, laidKinds := [.data, .pinned], laidTests := true, laidLooks := .later }
def LaneTurnsCardSaid : Prop := Claim7.holds Tryd.pinned (.plain (OpenSpec.ofChange laneTurnsSpec)) laneTurnsCard

/-- THE TIED CARD OF 'pluglaw.LaneBits'. -/
def laneBitsCard : Claim7 := { stood := { row := laneBitsRow, standIns := [], harness := (true, "4815d90a3849dec0429973a1b07cb6c36b66d2037f147d30bdfc7ff5a08f0865"), looks := false }, kinds := [], alts := [], laidByText := true, laidKinds := [.data, .pinned], laidTests := true, laidLooks := .later }
def LaneBitsCardSaid : Prop := Claim7.holds Tryd.pinned (.plain (OpenSpec.ofChange laneBitsSpec)) laneBitsCard

/-- THE TIED CARD OF 'pluglaw.LaneStuffs'. -/
def laneStuffsCard : Claim7 := { stood := { row := laneStuffsRow, standIns := [], harness := (true, "4815d90a3849dec0429973a1b07cb6c36b66d2037f147d30bdfc7ff5a08f0865"), looks := false }, kinds := [], alts := [], laidByText := true, laidKinds := [.data, .pinned], laidTests := true, laidLooks := .later }
def LaneStuffsCardSaid : Prop := Claim7.holds Tryd.pinned (.plain (OpenSpec.ofChange laneStuffsSpec)) laneStuffsCard

/-- THE TIED CARD OF 'pluglaw.PhyPieces'. -/
def phyPiecesCard : Claim7 := { stood := { row := phyPiecesRow, standIns := [], harness := (true, "4815d90a3849dec0429973a1b07cb6c36b66d2037f147d30bdfc7ff5a08f0865"), looks := false }, kinds := [], alts := [], laidByText := true, laidKinds := [.data, .pinned], laidTests := true, laidLooks := .later }
def PhyPiecesCardSaid : Prop := Claim7.holds Tryd.pinned (.plain (OpenSpec.ofChange phyPiecesSpec)) phyPiecesCard

/-- THE TIED CARD OF 'pluglaw.PhyHears'. -/
def phyHearsCard : Claim7 := { stood := { row := phyHearsRow, standIns := [], harness := (true, "4815d90a3849dec0429973a1b07cb6c36b66d2037f147d30bdfc7ff5a08f0865"), looks := false }, kinds := [], alts := [], laidByText := true, laidKinds := [.data, .pinned], laidTests := true, laidLooks := .later }
def PhyHearsCardSaid : Prop := Claim7.holds Tryd.pinned (.plain (OpenSpec.ofChange phyHearsSpec)) phyHearsCard

/-- THE TIED CARD OF 'pluglaw.PhySends'. -/
def phySendsCard : Claim7 := { stood := { row := phySendsRow, standIns := [], harness := (true, "4815d90a3849dec0429973a1b07cb6c36b66d2037f147d30bdfc7ff5a08f0865"), looks := false }, kinds := [], alts := [], laidByText := true, laidKinds := [.data, .pinned], laidTests := true, laidLooks := .later }
def PhySendsCardSaid : Prop := Claim7.holds Tryd.pinned (.plain (OpenSpec.ofChange phySendsSpec)) phySendsCard

/-- THE SECOND FORM's CARD OF 'pluglaw.LaneTurns'. -/
def laneTurnsUptoCard : Claim7 := { stood := { row := laneTurnsUptoRow, standIns := [], harness := (true, "4815d90a3849dec0429973a1b07cb6c36b66d2037f147d30bdfc7ff5a08f0865"), looks := false }, kinds := [], alts := [], laidByText := true, laidKinds := [.data, .pinned], laidTests := true, laidLooks := .later }
def LaneTurnsUptoCardSaid : Prop := Claim7.holds Tryd.pinned (.plain (OpenSpec.upto laneTurnsSpec)) laneTurnsUptoCard

/-- THE SECOND FORM's CARD OF 'pluglaw.LaneBits'. -/
def laneBitsUptoCard : Claim7 := { stood := { row := laneBitsUptoRow, standIns := [], harness := (true, "4815d90a3849dec0429973a1b07cb6c36b66d2037f147d30bdfc7ff5a08f0865"), looks := false }, kinds := [], alts := [], laidByText := true, laidKinds := [.data, .pinned], laidTests := true, laidLooks := .later }
def LaneBitsUptoCardSaid : Prop := Claim7.holds Tryd.pinned (.plain (OpenSpec.upto laneBitsSpec)) laneBitsUptoCard

/-- THE SECOND FORM's CARD OF 'pluglaw.LaneStuffs'. -/
def laneStuffsUptoCard : Claim7 := { stood := { row := laneStuffsUptoRow, standIns := [], harness := (true, "4815d90a3849dec0429973a1b07cb6c36b66d2037f147d30bdfc7ff5a08f0865"), looks := false }, kinds := [], alts := [], laidByText := true, laidKinds := [.data, .pinned], laidTests := true, laidLooks := .later }
def LaneStuffsUptoCardSaid : Prop := Claim7.holds Tryd.pinned (.plain (OpenSpec.upto laneStuffsSpec)) laneStuffsUptoCard

/-- THE SECOND FORM's CARD OF 'pluglaw.PhyPieces'. -/
def phyPiecesUptoCard : Claim7 := { stood := { row := phyPiecesUptoRow, standIns := [], harness := (true, "4815d90a3849dec0429973a1b07cb6c36b66d2037f147d30bdfc7ff5a08f0865"), looks := false }, kinds := [], alts := [], laidByText := true, laidKinds := [.data, .pinned], laidTests := true, laidLooks := .later }
def PhyPiecesUptoCardSaid : Prop := Claim7.holds Tryd.pinned (.plain (OpenSpec.upto phyPiecesSpec)) phyPiecesUptoCard

/-- THE SECOND FORM's CARD OF 'pluglaw.PhyHears'. -/
def phyHearsUptoCard : Claim7 := { stood := { row := phyHearsUptoRow, standIns := [], harness := (true, "4815d90a3849dec0429973a1b07cb6c36b66d2037f147d30bdfc7ff5a08f0865"), looks := false }, kinds := [], alts := [], laidByText := true, laidKinds := [.data, .pinned], laidTests := true, laidLooks := .later }
def PhyHearsUptoCardSaid : Prop := Claim7.holds Tryd.pinned (.plain (OpenSpec.upto phyHearsSpec)) phyHearsUptoCard

/-- THE SECOND FORM's CARD OF 'pluglaw.PhySends'. -/
def phySendsUptoCard : Claim7 := { stood := { row := phySendsUptoRow, standIns := [], harness := (true, "4815d90a3849dec0429973a1b07cb6c36b66d2037f147d30bdfc7ff5a08f0865"), looks := false }, kinds := [], alts := [], laidByText := true, laidKinds := [.data, .pinned], laidTests := true, laidLooks := .later }
def PhySendsUptoCardSaid : Prop := Claim7.holds Tryd.pinned (.plain (OpenSpec.upto phySendsSpec)) phySendsUptoCard
end Rows
end Go.Proofs.YthihcmehaekiiaaDoor
