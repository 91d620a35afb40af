/-
  No cell of these rows narrows 'for every input' (looked for: loops, veiled, ifaces, maps, wideKeys, modest, calm, conditions, laid).
  DERIVED. THE GIVEN ROWS OF THIS SEAT. 5 by the template 'for every input the law returns true; each argument reads behind the call as it read before'; 0 by the template 'total and deterministic' (their statements: YtbodjbpgdkkohaaTotals.lean).
  GIVEN WITH THE SEED: the statements are not yours to turn. If you find one false, say at which input.
  Laid BY PROGRAM, IN A SANDBOX (cutbox-rows.mjs): the forced cells as the released guide's own fill.sh prints them over the translation bf8e22cc8f4b66ff… (all of the seat's roots in one cut). By AI agents, Wed Nov 11 2026. No macro, syntax, notation, axiom, sorry.
-/
import Derived.Test.YtbodjbpgdkkohaaChecked
import GoSem.Claim
import GoSem.ClaimJoined
import GoSem.ClaimMapViews
import Derived.JoinedTies
import Derived.KernelRfl
namespace Go.Proofs.Ytbodjbpgdkkohaa
/- THE CELL 'sum', in the pinned program and in every row, IS THE sha256 OF THE DUMP (.gsa) THAT YtbodjbpgdkkohaaProg.lean LOADS. Nothing in Lean hashes anything: it is a label: what it is worth is what the hold of that sum in a sandbox is worth. -/
noncomputable def Try.pinned : Pinned := { name := "ytbodjbpgdkkohaa", sum := "bf8e22cc8f4b66fff4808356a038fb711a32b57fbf54d99fab17864491498a14", checked := Try.checked }
namespace Rows
def none {H : Type} : Left H := { results := [], args := [] }

/-- 'pluglaw.ScsiDoes': WHATEVER THE INPUT: true; the input reads as it did. -/
def scsiDoesSpec : ChangeSpec := { name := "scsiDoes", fn := fun _ => fun
  | [d1, d2, d3] => { results := [.lit (.bool true)], args := [d1, d2, d3] }
  | _ => none }
def scsiDoesRow : OpenClaim := { program := "ytbodjbpgdkkohaa", sum := "bf8e22cc8f4b66fff4808356a038fb711a32b57fbf54d99fab17864491498a14", func := "plugtree/pluglaw.ScsiDoes", spec := "scsiDoes", inPlace := ["internal/abi.NoEscape", "internal/bytealg.MakeNoZero"], apart := false }
def ScsiDoesSaid : Prop := scsiDoesRow.holds Try.pinned (OpenSpec.ofChange scsiDoesSpec)

/-- ITS FALSE NEIGHBOUR: 'it returns false'. Refute it at one input. -/
def scsiDoesWrong : ChangeSpec := { name := "scsiDoes", fn := fun _ => fun
  | [d1, d2, d3] => { results := [.lit (.bool false)], args := [d1, d2, d3] }
  | _ => none }
def ScsiDoesWrongFalsely : Prop := scsiDoesRow.holds Try.pinned (OpenSpec.ofChange scsiDoesWrong)

/-- 'pluglaw.BulkServes': WHATEVER THE INPUT: true; the input reads as it did. -/
def bulkServesSpec : ChangeSpec := { name := "bulkServes", fn := fun _ => fun
  | [d1, d2, d3] => { results := [.lit (.bool true)], args := [d1, d2, d3] }
  | _ => none }
def bulkServesRow : OpenClaim := { program := "ytbodjbpgdkkohaa", sum := "bf8e22cc8f4b66fff4808356a038fb711a32b57fbf54d99fab17864491498a14", func := "plugtree/pluglaw.BulkServes", spec := "bulkServes", inPlace := ["internal/abi.NoEscape", "internal/bytealg.MakeNoZero", "internal/bytealg.IndexByteString"], unfollowed := true, recurses := true, apart := false }
def BulkServesSaid : Prop := bulkServesRow.holds Try.pinned (OpenSpec.ofChange bulkServesSpec)

/-- ITS FALSE NEIGHBOUR: 'it returns false'. Refute it at one input. -/
def bulkServesWrong : ChangeSpec := { name := "bulkServes", fn := fun _ => fun
  | [d1, d2, d3] => { results := [.lit (.bool false)], args := [d1, d2, d3] }
  | _ => none }
def BulkServesWrongFalsely : Prop := bulkServesRow.holds Try.pinned (OpenSpec.ofChange bulkServesWrong)

/-- 'pluglaw.StoreCycles': WHATEVER THE INPUT: true; the input reads as it did. -/
def storeCyclesSpec : ChangeSpec := { name := "storeCycles", fn := fun _ => fun
  | [d1, d2, d3, d4, d5] => { results := [.lit (.bool true)], args := [d1, d2, d3, d4, d5] }
  | _ => none }
def storeCyclesRow : OpenClaim := { program := "ytbodjbpgdkkohaa", sum := "bf8e22cc8f4b66fff4808356a038fb711a32b57fbf54d99fab17864491498a14", func := "plugtree/pluglaw.StoreCycles", spec := "storeCycles", inPlace := ["internal/abi.NoEscape", "internal/bytealg.MakeNoZero", "internal/bytealg.IndexByteString"], unfollowed := true, recurses := true, apart := false }
def StoreCyclesSaid : Prop := storeCyclesRow.holds Try.pinned (OpenSpec.ofChange storeCyclesSpec)

/-- ITS FALSE NEIGHBOUR: 'it returns false'. Refute it at one input. -/
def storeCyclesWrong : ChangeSpec := { name := "storeCycles", fn := fun _ => fun
  | [d1, d2, d3, d4, d5] => { results := [.lit (.bool false)], args := [d1, d2, d3, d4, d5] }
  | _ => none }
def StoreCyclesWrongFalsely : Prop := storeCyclesRow.holds Try.pinned (OpenSpec.ofChange storeCyclesWrong)

/-- 'pluglaw.StoreReads': WHATEVER THE INPUT: true; the input reads as it did. -/
def storeReadsSpec : ChangeSpec := { name := "storeReads", fn := fun _ => fun
  | [d1, d2, d3, d4] => { results := [.lit (.bool true)], args := [d1, d2, d3, d4] }
  | _ => none }
def storeReadsRow : OpenClaim := { program := "ytbodjbpgdkkohaa", sum := "bf8e22cc8f4b66fff4808356a038fb711a32b57fbf54d99fab17864491498a14", func := "plugtree/pluglaw.StoreReads", spec := "storeReads", inPlace := ["internal/abi.NoEscape", "internal/bytealg.MakeNoZero", "internal/bytealg.IndexByteString"], unfollowed := true, recurses := true, apart := false }
def StoreReadsSaid : Prop := storeReadsRow.holds Try.pinned (OpenSpec.ofChange storeReadsSpec)

/-- ITS FALSE NEIGHBOUR: 'it returns false'. Refute it at one input. -/
def storeReadsWrong : ChangeSpec := { name := "storeReads", fn := fun _ => fun
  | [d1, d2, d3, d4] => { results := [.lit (.bool false)], args := [d1, d2, d3, d4] }
  | _ => none }
def StoreReadsWrongFalsely : Prop := storeReadsRow.holds Try.pinned (OpenSpec.ofChange storeReadsWrong)

/-- 'pluglaw.StoreWrites': WHATEVER THE INPUT: true; the input reads as it did. -/
def storeWritesSpec : ChangeSpec := { name := "storeWrites", fn := fun _ => fun
  | [d1, d2, d3, d4] => { results := [.lit (.bool true)], args := [d1, d2, d3, d4] }
  | _ => none }
def storeWritesRow : OpenClaim := { program := "ytbodjbpgdkkohaa", sum := "bf8e22cc8f4b66fff4808356a038fb711a32b57fbf54d99fab17864491498a14", func := "plugtree/pluglaw.StoreWrites", spec := "storeWrites", inPlace := ["internal/abi.NoEscape", "internal/bytealg.MakeNoZero", "internal/bytealg.IndexByteString"], unfollowed := true, recurses := true, apart := false }
def StoreWritesSaid : Prop := storeWritesRow.holds Try.pinned (OpenSpec.ofChange storeWritesSpec)

/-- ITS FALSE NEIGHBOUR: 'it returns false'. Refute it at one input. -/
def storeWritesWrong : ChangeSpec := { name := "storeWrites", fn := fun _ => fun
  | [d1, d2, d3, d4] => { results := [.lit (.bool false)], args := [d1, d2, d3, d4] }
  | _ => none }
def StoreWritesWrongFalsely : Prop := storeWritesRow.holds Try.pinned (OpenSpec.ofChange storeWritesWrong)

/- THE SECOND FORM. 'bulk': how many values and letters a reading holds, each counted each time it is reached (what is shared counts as often as it is met; a slice's spare places count too). A statement '..UptoSaid' is the law's where the arguments, and the package variables that the reading takes, are together of bulk at most 1048576: NARROWER than '..Said'. Prove '..Said' where nothing that the law and all that it calls make is longer than what came in: it says more and counts as full. Else prove '..UptoSaid'. A law counts once. -/
mutual
def uptoBulk {H : Type} : DataW H → Nat
  | .lit (.string bytes) => bytes.length + 1
  | .lit _ => 1
  | .nil => 1
  | .ptr d => uptoBulk d + 1
  | .slice elems spare => uptoBulkAll elems + uptoBulkAll spare + 1
  | .agg parts => uptoBulkAll parts + 1
  | .iface _ d => uptoBulk d + 1
  | .map entries => uptoBulkEntries entries + 1
  | .held _ => 1
def uptoBulkAll {H : Type} : List (DataW H) → Nat
  | [] => 0
  | d :: r => uptoBulk d + uptoBulkAll r
def uptoBulkEntries {H : Type} : List (Lit × DataW H) → Nat
  | [] => 0
  | x :: r => uptoBulkEntry x + uptoBulkEntries r
def uptoBulkEntry {H : Type} : Lit × DataW H → Nat
  | (.string bytes, d) => bytes.length + uptoBulk d + 1
  | (_, d) => uptoBulk d + 1
 end
def uptoSmall : (H : Type) → List (DataW H) → Bool := fun _ ds => decide (uptoBulkAll ds ≤ 1048576)
def OpenSpec.upto (s : _root_.Go.ChangeSpec) : _root_.Go.OpenSpec := { _root_.Go.OpenSpec.ofChange s with cond := some uptoSmall }

/-- 'pluglaw.ScsiDoes', WHERE WHAT IT READS IS OF BULK AT MOST 1048576: true; the input reads as it did. -/
def scsiDoesUptoRow : OpenClaim := { program := "ytbodjbpgdkkohaa", sum := "bf8e22cc8f4b66fff4808356a038fb711a32b57fbf54d99fab17864491498a14", func := "plugtree/pluglaw.ScsiDoes", spec := "scsiDoes", inPlace := ["internal/abi.NoEscape", "internal/bytealg.MakeNoZero"], apart := false, narrowed := true }
def ScsiDoesUptoSaid : Prop := scsiDoesUptoRow.holds Try.pinned (OpenSpec.upto scsiDoesSpec)

/-- 'pluglaw.BulkServes', WHERE WHAT IT READS IS OF BULK AT MOST 1048576: true; the input reads as it did. -/
def bulkServesUptoRow : OpenClaim := { program := "ytbodjbpgdkkohaa", sum := "bf8e22cc8f4b66fff4808356a038fb711a32b57fbf54d99fab17864491498a14", func := "plugtree/pluglaw.BulkServes", spec := "bulkServes", inPlace := ["internal/abi.NoEscape", "internal/bytealg.MakeNoZero", "internal/bytealg.IndexByteString"], unfollowed := true, recurses := true, apart := false, narrowed := true }
def BulkServesUptoSaid : Prop := bulkServesUptoRow.holds Try.pinned (OpenSpec.upto bulkServesSpec)

/-- 'pluglaw.StoreCycles', WHERE WHAT IT READS IS OF BULK AT MOST 1048576: true; the input reads as it did. -/
def storeCyclesUptoRow : OpenClaim := { program := "ytbodjbpgdkkohaa", sum := "bf8e22cc8f4b66fff4808356a038fb711a32b57fbf54d99fab17864491498a14", func := "plugtree/pluglaw.StoreCycles", spec := "storeCycles", inPlace := ["internal/abi.NoEscape", "internal/bytealg.MakeNoZero", "internal/bytealg.IndexByteString"], unfollowed := true, recurses := true, apart := false, narrowed := true }
def StoreCyclesUptoSaid : Prop := storeCyclesUptoRow.holds Try.pinned (OpenSpec.upto storeCyclesSpec)

/-- 'pluglaw.StoreReads', WHERE WHAT IT READS IS OF BULK AT MOST 1048576: true; the input reads as it did. -/
def storeReadsUptoRow : OpenClaim := { program := "ytbodjbpgdkkohaa", sum := "bf8e22cc8f4b66fff4808356a038fb711a32b57fbf54d99fab17864491498a14", func := "plugtree/pluglaw.StoreReads", spec := "storeReads", inPlace := ["internal/abi.NoEscape", "internal/bytealg.MakeNoZero", "internal/bytealg.IndexByteString"], unfollowed := true, recurses := true, apart := false, narrowed := true }
def StoreReadsUptoSaid : Prop := storeReadsUptoRow.holds Try.pinned (OpenSpec.upto storeReadsSpec)

/-- 'pluglaw.StoreWrites', WHERE WHAT IT READS IS OF BULK AT MOST 1048576: true; the input reads as it did. -/
def storeWritesUptoRow : OpenClaim := { program := "ytbodjbpgdkkohaa", sum := "bf8e22cc8f4b66fff4808356a038fb711a32b57fbf54d99fab17864491498a14", func := "plugtree/pluglaw.StoreWrites", spec := "storeWrites", inPlace := ["internal/abi.NoEscape", "internal/bytealg.MakeNoZero", "internal/bytealg.IndexByteString"], unfollowed := true, recurses := true, apart := false, narrowed := true }
def StoreWritesUptoSaid : Prop := storeWritesUptoRow.holds Try.pinned (OpenSpec.upto storeWritesSpec)

end Rows
end Go.Proofs.Ytbodjbpgdkkohaa
