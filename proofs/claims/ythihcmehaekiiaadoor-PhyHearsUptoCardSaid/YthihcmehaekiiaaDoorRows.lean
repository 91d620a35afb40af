/-
  NARROWER THAN 'FOR EVERY INPUT', by the rows' own cells (each row's printed sentence says how): LaneTurns: laid · LaneBits: laid · LaneStuffs: laid · PhyPieces: laid · PhyHears: laid · PhySends: laid.
  DERIVED. THE GIVEN ROWS OF THIS SEAT. 6 by the template 'for every input the law returns true; each argument reads behind the call as it read before'; 0 by the template 'total and deterministic' (their statements: YthihcmehaekiiaaDoorTotals.lean).
  GIVEN WITH THE SEED: the statements are not yours to turn. If you find one false, say at which input.
  Laid BY PROGRAM, IN A SANDBOX (cutbox-rows.mjs): the forced cells as the released guide's own fill.sh prints them over the translation 041527b0b7e771d6… (all of the seat's roots in one cut). By AI agents, Wed Nov 11 2026. No macro, syntax, notation, axiom, sorry.
-/
import Derived.Test.YthihcmehaekiiaaDoorChecked
import GoSem.PinnedTables
import GoSem.Claim
import GoSem.ClaimJoined
import GoSem.ClaimMapViews
import Derived.JoinedTies
import Derived.KernelRfl
namespace Go.Proofs.YthihcmehaekiiaaDoor
/- THE CELL 'sum', in the pinned program and in every row, IS THE sha256 OF THE DUMP (.gsa) THAT YthihcmehaekiiaaDoorProg.lean LOADS. Nothing in Lean hashes anything: it is a label: what it is worth is what the hold of that sum in a sandbox is worth. -/
noncomputable def Tryd.pinned : Pinned := { name := "ythihcmehaekiiaadoor", sum := "041527b0b7e771d63e1f9ab43aaeaaf00f09b5e70179e23fb185fd81c8d216e8", checked := Tryd.checked }
namespace Rows
def none {H : Type} : Left H := { results := [], args := [] }

/- WHAT THE LISTED PACKAGE-LEVEL VARIABLES READ AS WHEN THE CALL BEGINS. Each datum BY PROGRAM (the guide's laid-datum.mjs) off the statement by which the dump's own 'gosem.cut.vars' lays the variable. In a bare row this is a premise. The card (YthihcmehaekiiaaDoorCards.lean) ties it to the program's text. -/
def laid_unicode_utf8_acceptRanges {H : Type} : DataW H := .agg [.agg [.lit (.int .u8 128), .lit (.int .u8 191)], .agg [.lit (.int .u8 160), .lit (.int .u8 191)], .agg [.lit (.int .u8 128), .lit (.int .u8 159)], .agg [.lit (.int .u8 144), .lit (.int .u8 191)], .agg [.lit (.int .u8 128), .lit (.int .u8 143)], .agg [.lit (.int .u8 0), .lit (.int .u8 0)], .agg [.lit (.int .u8 0), .lit (.int .u8 0)], .agg [.lit (.int .u8 0), .lit (.int .u8 0)], .agg [.lit (.int .u8 0), .lit (.int .u8 0)], .agg [.lit (.int .u8 0), .lit (.int .u8 0)], .agg [.lit (.int .u8 0), .lit (.int .u8 0)], .agg [.lit (.int .u8 0), .lit (.int .u8 0)], .agg [.lit (.int .u8 0), .lit (.int .u8 0)], .agg [.lit (.int .u8 0), .lit (.int .u8 0)], .agg [.lit (.int .u8 0), .lit (.int .u8 0)], .agg [.lit (.int .u8 0), .lit (.int .u8 0)]]
/-- One of Go's own tables, pinned by name: the form's constant. -/
def laid_unicode_utf8_first : DataW Unit := Go.Pinned.utf8First

/-- 'pluglaw.LaneTurns': WHATEVER THE INPUT: true; the input reads as it did. -/
def laneTurnsSpec : ChangeSpec := { name := "laneTurns", fn := fun _ => fun
  | [d1, d2, d3] => { results := [.lit (.bool true)], args := [d1, d2, d3] }
  | _ => none }
def laneTurnsRow : OpenClaim := { program := "ythihcmehaekiiaadoor", sum := "041527b0b7e771d63e1f9ab43aaeaaf00f09b5e70179e23fb185fd81c8d216e8", func := "plugtree/pluglaw.LaneTurns", spec := "laneTurns", inPlace := ["internal/bytealg.IndexByteString", "internal/bytealg.IndexString"], named := ["unicode/utf8.first", "unicode/utf8.acceptRanges", "internal/bytealg.MaxLen"], apart := false, laid := [("unicode/utf8.acceptRanges", laid_unicode_utf8_acceptRanges), ("unicode/utf8.first", laid_unicode_utf8_first)] }
def LaneTurnsSaid : Prop := laneTurnsRow.holds Tryd.pinned (OpenSpec.ofChange laneTurnsSpec)

/-- ITS FALSE NEIGHBOUR: 'it returns false'. Refute it at one input. -/
def laneTurnsWrong : ChangeSpec := { name := "laneTurns", fn := fun _ => fun
  | [d1, d2, d3] => { results := [.lit (.bool false)], args := [d1, d2, d3] }
  | _ => none }
def LaneTurnsWrongFalsely : Prop := laneTurnsRow.holds Tryd.pinned (OpenSpec.ofChange laneTurnsWrong)

/-- 'pluglaw.LaneBits': WHATEVER THE INPUT: true; the input reads as it did. -/
def laneBitsSpec : ChangeSpec := { name := "laneBits", fn := fun _ => fun
  | [d1, d2] => { results := [.lit (.bool true)], args := [d1, d2] }
  | _ => none }
def laneBitsRow : OpenClaim := { program := "ythihcmehaekiiaadoor", sum := "041527b0b7e771d63e1f9ab43aaeaaf00f09b5e70179e23fb185fd81c8d216e8", func := "plugtree/pluglaw.LaneBits", spec := "laneBits", inPlace := ["internal/bytealg.IndexByteString", "internal/bytealg.IndexString", "internal/abi.NoEscape"], named := ["unicode/utf8.first", "unicode/utf8.acceptRanges", "internal/bytealg.MaxLen"], apart := false, laid := [("unicode/utf8.acceptRanges", laid_unicode_utf8_acceptRanges), ("unicode/utf8.first", laid_unicode_utf8_first)] }
def LaneBitsSaid : Prop := laneBitsRow.holds Tryd.pinned (OpenSpec.ofChange laneBitsSpec)

/-- ITS FALSE NEIGHBOUR: 'it returns false'. Refute it at one input. -/
def laneBitsWrong : ChangeSpec := { name := "laneBits", fn := fun _ => fun
  | [d1, d2] => { results := [.lit (.bool false)], args := [d1, d2] }
  | _ => none }
def LaneBitsWrongFalsely : Prop := laneBitsRow.holds Tryd.pinned (OpenSpec.ofChange laneBitsWrong)

/-- 'pluglaw.LaneStuffs': WHATEVER THE INPUT: true; the input reads as it did. -/
def laneStuffsSpec : ChangeSpec := { name := "laneStuffs", fn := fun _ => fun
  | [d] => { results := [.lit (.bool true)], args := [d] }
  | _ => none }
def laneStuffsRow : OpenClaim := { program := "ythihcmehaekiiaadoor", sum := "041527b0b7e771d63e1f9ab43aaeaaf00f09b5e70179e23fb185fd81c8d216e8", func := "plugtree/pluglaw.LaneStuffs", spec := "laneStuffs", inPlace := ["internal/bytealg.IndexByteString", "internal/bytealg.IndexString", "internal/abi.NoEscape", "internal/bytealg.CountString", "internal/bytealg.MakeNoZero"], named := ["unicode/utf8.first", "unicode/utf8.acceptRanges", "internal/bytealg.MaxLen"], apart := false, laid := [("unicode/utf8.acceptRanges", laid_unicode_utf8_acceptRanges), ("unicode/utf8.first", laid_unicode_utf8_first)] }
def LaneStuffsSaid : Prop := laneStuffsRow.holds Tryd.pinned (OpenSpec.ofChange laneStuffsSpec)

/-- ITS FALSE NEIGHBOUR: 'it returns false'. Refute it at one input. -/
def laneStuffsWrong : ChangeSpec := { name := "laneStuffs", fn := fun _ => fun
  | [d] => { results := [.lit (.bool false)], args := [d] }
  | _ => none }
def LaneStuffsWrongFalsely : Prop := laneStuffsRow.holds Tryd.pinned (OpenSpec.ofChange laneStuffsWrong)

/-- 'pluglaw.PhyPieces': WHATEVER THE INPUT: true; the input reads as it did. -/
def phyPiecesSpec : ChangeSpec := { name := "phyPieces", fn := fun _ => fun
  | [d] => { results := [.lit (.bool true)], args := [d] }
  | _ => none }
def phyPiecesRow : OpenClaim := { program := "ythihcmehaekiiaadoor", sum := "041527b0b7e771d63e1f9ab43aaeaaf00f09b5e70179e23fb185fd81c8d216e8", func := "plugtree/pluglaw.PhyPieces", spec := "phyPieces", inPlace := ["internal/bytealg.IndexByteString", "internal/bytealg.IndexString", "internal/abi.NoEscape"], named := ["unicode/utf8.first", "unicode/utf8.acceptRanges", "internal/bytealg.MaxLen"], apart := false, laid := [("unicode/utf8.acceptRanges", laid_unicode_utf8_acceptRanges), ("unicode/utf8.first", laid_unicode_utf8_first)] }
def PhyPiecesSaid : Prop := phyPiecesRow.holds Tryd.pinned (OpenSpec.ofChange phyPiecesSpec)

/-- ITS FALSE NEIGHBOUR: 'it returns false'. Refute it at one input. -/
def phyPiecesWrong : ChangeSpec := { name := "phyPieces", fn := fun _ => fun
  | [d] => { results := [.lit (.bool false)], args := [d] }
  | _ => none }
def PhyPiecesWrongFalsely : Prop := phyPiecesRow.holds Tryd.pinned (OpenSpec.ofChange phyPiecesWrong)

/-- 'pluglaw.PhyHears': WHATEVER THE INPUT: true; the input reads as it did. -/
def phyHearsSpec : ChangeSpec := { name := "phyHears", fn := fun _ => fun
  | [d1, d2] => { results := [.lit (.bool true)], args := [d1, d2] }
  | _ => none }
def phyHearsRow : OpenClaim := { program := "ythihcmehaekiiaadoor", sum := "041527b0b7e771d63e1f9ab43aaeaaf00f09b5e70179e23fb185fd81c8d216e8", func := "plugtree/pluglaw.PhyHears", spec := "phyHears", inPlace := ["internal/bytealg.IndexByteString", "internal/bytealg.IndexString", "internal/abi.NoEscape"], named := ["unicode/utf8.first", "unicode/utf8.acceptRanges", "internal/bytealg.MaxLen"], apart := false, laid := [("unicode/utf8.acceptRanges", laid_unicode_utf8_acceptRanges), ("unicode/utf8.first", laid_unicode_utf8_first)] }
def PhyHearsSaid : Prop := phyHearsRow.holds Tryd.pinned (OpenSpec.ofChange phyHearsSpec)

/-- ITS FALSE NEIGHBOUR: 'it returns false'. Refute it at one input. -/
def phyHearsWrong : ChangeSpec := { name := "phyHears", fn := fun _ => fun
  | [d1, d2] => { results := [.lit (.bool false)], args := [d1, d2] }
  | _ => none }
def PhyHearsWrongFalsely : Prop := phyHearsRow.holds Tryd.pinned (OpenSpec.ofChange phyHearsWrong)

/-- 'pluglaw.PhySends': WHATEVER THE INPUT: true; the input reads as it did. -/
def phySendsSpec : ChangeSpec := { name := "phySends", fn := fun _ => fun
  | [d] => { results := [.lit (.bool true)], args := [d] }
  | _ => none }
def phySendsRow : OpenClaim := { program := "ythihcmehaekiiaadoor", sum := "041527b0b7e771d63e1f9ab43aaeaaf00f09b5e70179e23fb185fd81c8d216e8", func := "plugtree/pluglaw.PhySends", spec := "phySends", inPlace := ["internal/abi.NoEscape", "internal/bytealg.IndexByteString", "internal/bytealg.IndexString", "internal/bytealg.CountString", "internal/bytealg.MakeNoZero"], named := ["unicode/utf8.first", "unicode/utf8.acceptRanges", "internal/bytealg.MaxLen"], apart := false, laid := [("unicode/utf8.acceptRanges", laid_unicode_utf8_acceptRanges), ("unicode/utf8.first", laid_unicode_utf8_first)] }
def PhySendsSaid : Prop := phySendsRow.holds Tryd.pinned (OpenSpec.ofChange phySendsSpec)

/-- ITS FALSE NEIGHBOUR: 'it returns false'. Refute it at one input. -/
def phySendsWrong : ChangeSpec := { name := "phySends", fn := fun _ => fun
  | [d] => { results := [.lit (.bool false)], args := [d] }
  | _ => none }
def PhySendsWrongFalsely : Prop := phySendsRow.holds Tryd.pinned (OpenSpec.ofChange phySendsWrong)

/- THE SECOND FORM. 'bulk': how many values and letters a reading holds, each counted each time it is reached (what is shared counts as often as it is met; a slice's spare places count too). A statement '..UptoSaid' is the law's where the arguments, and the package variables that the reading takes, are together of bulk at most 1048576: NARROWER than '..Said'. Prove '..Said' where nothing that the law and all that it calls make is longer than what came in: it says more and counts as full. Else prove '..UptoSaid'. A law counts once. -/
mutual
def uptoBulk {H : Type} : DataW H → Nat
  | .lit (.string bytes) => bytes.length + 1
  | .lit _ => 1
  | .nil => 1
  | .ptr d => uptoBulk d + 1
  | .slice elems spare => uptoBulkAll elems + uptoBulkAll spare + 1
  | .agg parts => uptoBulkAll parts + 1
  | .iface _ d => uptoBulk d + 1
  | .map entries => uptoBulkEntries entries + 1
  | .held _ => 1
def uptoBulkAll {H : Type} : List (DataW H) → Nat
  | [] => 0
  | d :: r => uptoBulk d + uptoBulkAll r
def uptoBulkEntries {H : Type} : List (Lit × DataW H) → Nat
  | [] => 0
  | x :: r => uptoBulkEntry x + uptoBulkEntries r
def uptoBulkEntry {H : Type} : Lit × DataW H → Nat
  | (.string bytes, d) => bytes.length + uptoBulk d + 1
  | (_, d) => uptoBulk d + 1
 end
def uptoSmall : (H : Type) → List (DataW H) → Bool := fun _ ds => decide (uptoBulkAll ds ≤ 1048576)
def OpenSpec.upto (s : _root_.Go.ChangeSpec) : _root_.Go.OpenSpec := { _root_.Go.OpenSpec.ofChange s with cond := some uptoSmall }

/-- 'pluglaw.LaneTurns', WHERE WHAT IT READS IS OF BULK AT MOST 1048576: true; the input reads as it did. -/
def laneTurnsUptoRow : OpenClaim := { program := "ythihcmehaekiiaadoor", sum := "041527b0b7e771d63e1f9ab43aaeaaf00f09b5e70179e23fb185fd81c8d216e8", func := "plugtree/pluglaw.LaneTurns", spec := "laneTurns", inPlace := ["internal/bytealg.IndexByteString", "internal/bytealg.IndexString"], named := ["unicode/utf8.first", "unicode/utf8.acceptRanges", "internal/bytealg.MaxLen"], apart := false, laid := [("unicode/utf8.acceptRanges", laid_unicode_utf8_acceptRanges), ("unicode/utf8.first", laid_unicode_utf8_first)], narrowed := true }
def LaneTurnsUptoSaid : Prop := laneTurnsUptoRow.holds Tryd.pinned (OpenSpec.upto laneTurnsSpec)

/-- 'pluglaw.LaneBits', WHERE WHAT IT READS IS OF BULK AT MOST 1048576: true; the input reads as it did. -/
def laneBitsUptoRow : OpenClaim := { program := "ythihcmehaekiiaadoor", sum := "041527b0b7e771d63e1f9ab43aaeaaf00f09b5e70179e23fb185fd81c8d216e8", func := "plugtree/pluglaw.LaneBits", spec := "laneBits", inPlace := ["internal/bytealg.IndexByteString", "internal/bytealg.IndexString", "internal/abi.NoEscape"], named := ["unicode/utf8.first", "unicode/utf8.acceptRanges", "internal/bytealg.MaxLen"], apart := false, laid := [("unicode/utf8.acceptRanges", laid_unicode_utf8_acceptRanges), ("unicode/utf8.first", laid_unicode_utf8_first)], narrowed := true }
def LaneBitsUptoSaid : Prop := laneBitsUptoRow.holds Tryd.pinned (OpenSpec.upto laneBitsSpec)

/-- 'pluglaw.LaneStuffs', WHERE WHAT IT READS IS OF BULK AT MOST 1048576: true; the input reads as it did. -/
def laneStuffsUptoRow : OpenClaim := { program := "ythihcmehaekiiaadoor", sum := "041527b0b7e771d63e1f9ab43aaeaaf00f09b5e70179e23fb185fd81c8d216e8", func := "plugtree/pluglaw.LaneStuffs", spec := "laneStuffs", inPlace := ["internal/bytealg.IndexByteString", "internal/bytealg.IndexString", "internal/abi.NoEscape", "internal/bytealg.CountString", "internal/bytealg.MakeNoZero"], named := ["unicode/utf8.first", "unicode/utf8.acceptRanges", "internal/bytealg.MaxLen"], apart := false, laid := [("unicode/utf8.acceptRanges", laid_unicode_utf8_acceptRanges), ("unicode/utf8.first", laid_unicode_utf8_first)], narrowed := true }
def LaneStuffsUptoSaid : Prop := laneStuffsUptoRow.holds Tryd.pinned (OpenSpec.upto laneStuffsSpec)

/-- 'pluglaw.PhyPieces', WHERE WHAT IT READS IS OF BULK AT MOST 1048576: true; the input reads as it did. -/
def phyPiecesUptoRow : OpenClaim := { program := "ythihcmehaekiiaadoor", sum := "041527b0b7e771d63e1f9ab43aaeaaf00f09b5e70179e23fb185fd81c8d216e8", func := "plugtree/pluglaw.PhyPieces", spec := "phyPieces", inPlace := ["internal/bytealg.IndexByteString", "internal/bytealg.IndexString", "internal/abi.NoEscape"], named := ["unicode/utf8.first", "unicode/utf8.acceptRanges", "internal/bytealg.MaxLen"], apart := false, laid := [("unicode/utf8.acceptRanges", laid_unicode_utf8_acceptRanges), ("unicode/utf8.first", laid_unicode_utf8_first)], narrowed := true }
def PhyPiecesUptoSaid : Prop := phyPiecesUptoRow.holds Tryd.pinned (OpenSpec.upto phyPiecesSpec)

/-- 'pluglaw.PhyHears', WHERE WHAT IT READS IS OF BULK AT MOST 1048576: true; the input reads as it did. -/
def phyHearsUptoRow : OpenClaim := { program := "ythihcmehaekiiaadoor", sum := "041527b0b7e771d63e1f9ab43aaeaaf00f09b5e70179e23fb185fd81c8d216e8", func := "plugtree/pluglaw.PhyHears", spec := "phyHears", inPlace := ["internal/bytealg.IndexByteString", "internal/bytealg.IndexString", "internal/abi.NoEscape"], named := ["unicode/utf8.first", "unicode/utf8.acceptRanges", "internal/bytealg.MaxLen"], apart := false, laid := [("unicode/utf8.acceptRanges", laid_unicode_utf8_acceptRanges), ("unicode/utf8.first", laid_unicode_utf8_first)], narrowed := true }
def PhyHearsUptoSaid : Prop := phyHearsUptoRow.holds Tryd.pinned (OpenSpec.upto phyHearsSpec)

/-- 'pluglaw.PhySends', WHERE WHAT IT READS IS OF BULK AT MOST 1048576: true; the input reads as it did. -/
def phySendsUptoRow : OpenClaim := { program := "ythihcmehaekiiaadoor", sum := "041527b0b7e771d63e1f9ab43aaeaaf00f09b5e70179e23fb185fd81c8d216e8", func := "plugtree/pluglaw.PhySends", spec := "phySends", inPlace := ["internal/abi.NoEscape", "internal/bytealg.IndexByteString", "internal/bytealg.IndexString", "internal/bytealg.CountString", "internal/bytealg.MakeNoZero"], named := ["unicode/utf8.first", "unicode/utf8.acceptRanges", "internal/bytealg.MaxLen"], apart := false, laid := [("unicode/utf8.acceptRanges", laid_unicode_utf8_acceptRanges), ("unicode/utf8.first", laid_unicode_utf8_first)], narrowed := true }
def PhySendsUptoSaid : Prop := phySendsUptoRow.holds Tryd.pinned (OpenSpec.upto phySendsSpec)

end Rows
end Go.Proofs.YthihcmehaekiiaaDoor
