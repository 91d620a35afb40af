/-
  No cell of these rows narrows 'for every input' (looked for: loops, veiled, ifaces, maps, wideKeys, modest, calm, conditions, laid).
  DERIVED. THE GIVEN ROWS OF THIS SEAT. 5 by the template 'for every input the law returns true; each argument reads behind the call as it read before'; 0 by the template 'total and deterministic' (their statements: YtglkfgfnnhbjeaaTotals.lean).
  GIVEN WITH THE SEED: the statements are not yours to turn. If you find one false, say at which input.
  Laid BY PROGRAM, IN A SANDBOX (cutbox-rows.mjs): the forced cells as the released guide's own fill.sh prints them over the translation c69d17c3b159feb8… (all of the seat's roots in one cut). By AI agents, Wed Nov 11 2026. No macro, syntax, notation, axiom, sorry.
-/
import Derived.Test.YtglkfgfnnhbjeaaChecked
import GoSem.Claim
import GoSem.ClaimJoined
import GoSem.ClaimMapViews
import Derived.JoinedTies
import Derived.KernelRfl
namespace Go.Proofs.Ytglkfgfnnhbjeaa
/- THE CELL 'sum', in the pinned program and in every row, IS THE sha256 OF THE DUMP (.gsa) THAT YtglkfgfnnhbjeaaProg.lean LOADS. Nothing in Lean hashes anything: it is a label: what it is worth is what the hold of that sum in a sandbox is worth. -/
noncomputable def Try.pinned : Pinned := { name := "ytglkfgfnnhbjeaa", sum := "c69d17c3b159feb8ac083aa37da20129fcf619be258f0411081de5778ed10e48", checked := Try.checked }
namespace Rows
def none {H : Type} : Left H := { results := [], args := [] }

/-- 'pluglaw.Names': WHATEVER THE INPUT: true; the input reads as it did. -/
def namesSpec : ChangeSpec := { name := "names", fn := fun _ => fun
  | [] => { results := [.lit (.bool true)], args := [] }
  | _ => none }
def namesRow : OpenClaim := { program := "ytglkfgfnnhbjeaa", sum := "c69d17c3b159feb8ac083aa37da20129fcf619be258f0411081de5778ed10e48", func := "plugtree/pluglaw.Names", spec := "names", apart := false }
def NamesSaid : Prop := namesRow.holds Try.pinned (OpenSpec.ofChange namesSpec)

/-- ITS FALSE NEIGHBOUR: 'it returns false'. Refute it at one input. -/
def namesWrong : ChangeSpec := { name := "names", fn := fun _ => fun
  | [] => { results := [.lit (.bool false)], args := [] }
  | _ => none }
def NamesWrongFalsely : Prop := namesRow.holds Try.pinned (OpenSpec.ofChange namesWrong)

/-- 'pluglaw.CrcFives': WHATEVER THE INPUT: true; the input reads as it did. -/
def crcFivesSpec : ChangeSpec := { name := "crcFives", fn := fun _ => fun
  | [d] => { results := [.lit (.bool true)], args := [d] }
  | _ => none }
def crcFivesRow : OpenClaim := { program := "ytglkfgfnnhbjeaa", sum := "c69d17c3b159feb8ac083aa37da20129fcf619be258f0411081de5778ed10e48", func := "plugtree/pluglaw.CrcFives", spec := "crcFives", apart := false }
def CrcFivesSaid : Prop := crcFivesRow.holds Try.pinned (OpenSpec.ofChange crcFivesSpec)

/-- ITS FALSE NEIGHBOUR: 'it returns false'. Refute it at one input. -/
def crcFivesWrong : ChangeSpec := { name := "crcFives", fn := fun _ => fun
  | [d] => { results := [.lit (.bool false)], args := [d] }
  | _ => none }
def CrcFivesWrongFalsely : Prop := crcFivesRow.holds Try.pinned (OpenSpec.ofChange crcFivesWrong)

/-- 'pluglaw.CrcSays': WHATEVER THE INPUT: true; the input reads as it did. -/
def crcSaysSpec : ChangeSpec := { name := "crcSays", fn := fun _ => fun
  | [d1, d2] => { results := [.lit (.bool true)], args := [d1, d2] }
  | _ => none }
def crcSaysRow : OpenClaim := { program := "ytglkfgfnnhbjeaa", sum := "c69d17c3b159feb8ac083aa37da20129fcf619be258f0411081de5778ed10e48", func := "plugtree/pluglaw.CrcSays", spec := "crcSays", apart := false }
def CrcSaysSaid : Prop := crcSaysRow.holds Try.pinned (OpenSpec.ofChange crcSaysSpec)

/-- ITS FALSE NEIGHBOUR: 'it returns false'. Refute it at one input. -/
def crcSaysWrong : ChangeSpec := { name := "crcSays", fn := fun _ => fun
  | [d1, d2] => { results := [.lit (.bool false)], args := [d1, d2] }
  | _ => none }
def CrcSaysWrongFalsely : Prop := crcSaysRow.holds Try.pinned (OpenSpec.ofChange crcSaysWrong)

/-- 'pluglaw.PacketSays': WHATEVER THE INPUT: true; the input reads as it did. -/
def packetSaysSpec : ChangeSpec := { name := "packetSays", fn := fun _ => fun
  | [d] => { results := [.lit (.bool true)], args := [d] }
  | _ => none }
def packetSaysRow : OpenClaim := { program := "ytglkfgfnnhbjeaa", sum := "c69d17c3b159feb8ac083aa37da20129fcf619be258f0411081de5778ed10e48", func := "plugtree/pluglaw.PacketSays", spec := "packetSays", inPlace := ["internal/bytealg.IndexByteString"], apart := false }
def PacketSaysSaid : Prop := packetSaysRow.holds Try.pinned (OpenSpec.ofChange packetSaysSpec)

/-- ITS FALSE NEIGHBOUR: 'it returns false'. Refute it at one input. -/
def packetSaysWrong : ChangeSpec := { name := "packetSays", fn := fun _ => fun
  | [d] => { results := [.lit (.bool false)], args := [d] }
  | _ => none }
def PacketSaysWrongFalsely : Prop := packetSaysRow.holds Try.pinned (OpenSpec.ofChange packetSaysWrong)

/-- 'pluglaw.PacketReads': WHATEVER THE INPUT: true; the input reads as it did. -/
def packetReadsSpec : ChangeSpec := { name := "packetReads", fn := fun _ => fun
  | [d] => { results := [.lit (.bool true)], args := [d] }
  | _ => none }
def packetReadsRow : OpenClaim := { program := "ytglkfgfnnhbjeaa", sum := "c69d17c3b159feb8ac083aa37da20129fcf619be258f0411081de5778ed10e48", func := "plugtree/pluglaw.PacketReads", spec := "packetReads", inPlace := ["internal/bytealg.IndexByteString"], apart := false }
def PacketReadsSaid : Prop := packetReadsRow.holds Try.pinned (OpenSpec.ofChange packetReadsSpec)

/-- ITS FALSE NEIGHBOUR: 'it returns false'. Refute it at one input. -/
def packetReadsWrong : ChangeSpec := { name := "packetReads", fn := fun _ => fun
  | [d] => { results := [.lit (.bool false)], args := [d] }
  | _ => none }
def PacketReadsWrongFalsely : Prop := packetReadsRow.holds Try.pinned (OpenSpec.ofChange packetReadsWrong)

/- THE SECOND FORM. 'bulk': how many values and letters a reading holds, each counted each time it is reached (what is shared counts as often as it is met; a slice's spare places count too). A statement '..UptoSaid' is the law's where the arguments, and the package variables that the reading takes, are together of bulk at most 1048576: NARROWER than '..Said'. Prove '..Said' where nothing that the law and all that it calls make is longer than what came in: it says more and counts as full. Else prove '..UptoSaid'. A law counts once. -/
mutual
def uptoBulk {H : Type} : DataW H → Nat
  | .lit (.string bytes) => bytes.length + 1
  | .lit _ => 1
  | .nil => 1
  | .ptr d => uptoBulk d + 1
  | .slice elems spare => uptoBulkAll elems + uptoBulkAll spare + 1
  | .agg parts => uptoBulkAll parts + 1
  | .iface _ d => uptoBulk d + 1
  | .map entries => uptoBulkEntries entries + 1
  | .held _ => 1
def uptoBulkAll {H : Type} : List (DataW H) → Nat
  | [] => 0
  | d :: r => uptoBulk d + uptoBulkAll r
def uptoBulkEntries {H : Type} : List (Lit × DataW H) → Nat
  | [] => 0
  | x :: r => uptoBulkEntry x + uptoBulkEntries r
def uptoBulkEntry {H : Type} : Lit × DataW H → Nat
  | (.string bytes, d) => bytes.length + uptoBulk d + 1
  | (_, d) => uptoBulk d + 1
 end
def uptoSmall : (H : Type) → List (DataW H) → Bool := fun _ ds => decide (uptoBulkAll ds ≤ 1048576)
def OpenSpec.upto (s : _root_.Go.ChangeSpec) : _root_.Go.OpenSpec := { _root_.Go.OpenSpec.ofChange s with cond := some uptoSmall }

/-- 'pluglaw.Names', WHERE WHAT IT READS IS OF BULK AT MOST 1048576: true; the input reads as it did. -/
def namesUptoRow : OpenClaim := { program := "ytglkfgfnnhbjeaa", sum := "c69d17c3b159feb8ac083aa37da20129fcf619be258f0411081de5778ed10e48", func := "plugtree/pluglaw.Names", spec := "names", apart := false, narrowed := true }
def NamesUptoSaid : Prop := namesUptoRow.holds Try.pinned (OpenSpec.upto namesSpec)

/-- 'pluglaw.CrcFives', WHERE WHAT IT READS IS OF BULK AT MOST 1048576: true; the input reads as it did. -/
def crcFivesUptoRow : OpenClaim := { program := "ytglkfgfnnhbjeaa", sum := "c69d17c3b159feb8ac083aa37da20129fcf619be258f0411081de5778ed10e48", func := "plugtree/pluglaw.CrcFives", spec := "crcFives", apart := false, narrowed := true }
def CrcFivesUptoSaid : Prop := crcFivesUptoRow.holds Try.pinned (OpenSpec.upto crcFivesSpec)

/-- 'pluglaw.CrcSays', WHERE WHAT IT READS IS OF BULK AT MOST 1048576: true; the input reads as it did. -/
def crcSaysUptoRow : OpenClaim := { program := "ytglkfgfnnhbjeaa", sum := "c69d17c3b159feb8ac083aa37da20129fcf619be258f0411081de5778ed10e48", func := "plugtree/pluglaw.CrcSays", spec := "crcSays", apart := false, narrowed := true }
def CrcSaysUptoSaid : Prop := crcSaysUptoRow.holds Try.pinned (OpenSpec.upto crcSaysSpec)

/-- 'pluglaw.PacketSays', WHERE WHAT IT READS IS OF BULK AT MOST 1048576: true; the input reads as it did. -/
def packetSaysUptoRow : OpenClaim := { program := "ytglkfgfnnhbjeaa", sum := "c69d17c3b159feb8ac083aa37da20129fcf619be258f0411081de5778ed10e48", func := "plugtree/pluglaw.PacketSays", spec := "packetSays", inPlace := ["internal/bytealg.IndexByteString"], apart := false, narrowed := true }
def PacketSaysUptoSaid : Prop := packetSaysUptoRow.holds Try.pinned (OpenSpec.upto packetSaysSpec)

/-- 'pluglaw.PacketReads', WHERE WHAT IT READS IS OF BULK AT MOST 1048576: true; the input reads as it did. -/
def packetReadsUptoRow : OpenClaim := { program := "ytglkfgfnnhbjeaa", sum := "c69d17c3b159feb8ac083aa37da20129fcf619be258f0411081de5778ed10e48", func := "plugtree/pluglaw.PacketReads", spec := "packetReads", inPlace := ["internal/bytealg.IndexByteString"], apart := false, narrowed := true }
def PacketReadsUptoSaid : Prop := packetReadsUptoRow.holds Try.pinned (OpenSpec.upto packetReadsSpec)

end Rows
end Go.Proofs.Ytglkfgfnnhbjeaa
