/-
  No cell of these rows narrows 'for every input' (looked for: loops, veiled, ifaces, maps, wideKeys, modest, calm, conditions, laid).
  DERIVED. THE GIVEN ROWS OF THIS SEAT. 11 by the template 'for every input the law returns true; each argument reads behind the call as it read before'; 0 by the template 'total and deterministic' (their statements: YtpiamcafkjdfpaaTotals.lean).
  GIVEN WITH THE SEED: the statements are not yours to turn. If you find one false, say at which input.
  Laid BY PROGRAM, IN A SANDBOX (cutbox-rows.mjs): the forced cells as the released guide's own fill.sh prints them over the translation d2c8753b2a8409e7… (all of the seat's roots in one cut). By AI agents, Wed Nov 11 2026. No macro, syntax, notation, axiom, sorry.
-/
import Derived.Test.YtpiamcafkjdfpaaChecked
import GoSem.Claim
import GoSem.ClaimJoined
import GoSem.ClaimMapViews
import Derived.JoinedTies
import Derived.KernelRfl
namespace Go.Proofs.Ytpiamcafkjdfpaa
/- THE CELL 'sum', in the pinned program and in every row, IS THE sha256 OF THE DUMP (.gsa) THAT YtpiamcafkjdfpaaProg.lean LOADS. Nothing in Lean hashes anything: it is a label: what it is worth is what the hold of that sum in a sandbox is worth. -/
noncomputable def Try.pinned : Pinned := { name := "ytpiamcafkjdfpaa", sum := "d2c8753b2a8409e79d138833395d733e91f706176e64a9d39bf5098afff7d408", checked := Try.checked }
namespace Rows
def none {H : Type} : Left H := { results := [], args := [] }

/-- 'pluglaw.BulkTells': WHATEVER THE INPUT: true; the input reads as it did. -/
def bulkTellsSpec : ChangeSpec := { name := "bulkTells", fn := fun _ => fun
  | [d1, d2] => { results := [.lit (.bool true)], args := [d1, d2] }
  | _ => none }
def bulkTellsRow : OpenClaim := { program := "ytpiamcafkjdfpaa", sum := "d2c8753b2a8409e79d138833395d733e91f706176e64a9d39bf5098afff7d408", func := "plugtree/pluglaw.BulkTells", spec := "bulkTells", apart := false }
def BulkTellsSaid : Prop := bulkTellsRow.holds Try.pinned (OpenSpec.ofChange bulkTellsSpec)

/-- ITS FALSE NEIGHBOUR: 'it returns false'. Refute it at one input. -/
def bulkTellsWrong : ChangeSpec := { name := "bulkTells", fn := fun _ => fun
  | [d1, d2] => { results := [.lit (.bool false)], args := [d1, d2] }
  | _ => none }
def BulkTellsWrongFalsely : Prop := bulkTellsRow.holds Try.pinned (OpenSpec.ofChange bulkTellsWrong)

/-- 'pluglaw.BulkJudges': WHATEVER THE INPUT: true; the input reads as it did. -/
def bulkJudgesSpec : ChangeSpec := { name := "bulkJudges", fn := fun _ => fun
  | [d1, d2] => { results := [.lit (.bool true)], args := [d1, d2] }
  | _ => none }
def bulkJudgesRow : OpenClaim := { program := "ytpiamcafkjdfpaa", sum := "d2c8753b2a8409e79d138833395d733e91f706176e64a9d39bf5098afff7d408", func := "plugtree/pluglaw.BulkJudges", spec := "bulkJudges", inPlace := ["internal/bytealg.IndexByteString"], apart := false }
def BulkJudgesSaid : Prop := bulkJudgesRow.holds Try.pinned (OpenSpec.ofChange bulkJudgesSpec)

/-- ITS FALSE NEIGHBOUR: 'it returns false'. Refute it at one input. -/
def bulkJudgesWrong : ChangeSpec := { name := "bulkJudges", fn := fun _ => fun
  | [d1, d2] => { results := [.lit (.bool false)], args := [d1, d2] }
  | _ => none }
def BulkJudgesWrongFalsely : Prop := bulkJudgesRow.holds Try.pinned (OpenSpec.ofChange bulkJudgesWrong)

/-- 'pluglaw.BulkWraps': WHATEVER THE INPUT: true; the input reads as it did. -/
def bulkWrapsSpec : ChangeSpec := { name := "bulkWraps", fn := fun _ => fun
  | [d1, d2] => { results := [.lit (.bool true)], args := [d1, d2] }
  | _ => none }
def bulkWrapsRow : OpenClaim := { program := "ytpiamcafkjdfpaa", sum := "d2c8753b2a8409e79d138833395d733e91f706176e64a9d39bf5098afff7d408", func := "plugtree/pluglaw.BulkWraps", spec := "bulkWraps", inPlace := ["internal/abi.NoEscape", "internal/bytealg.MakeNoZero"], apart := false }
def BulkWrapsSaid : Prop := bulkWrapsRow.holds Try.pinned (OpenSpec.ofChange bulkWrapsSpec)

/-- ITS FALSE NEIGHBOUR: 'it returns false'. Refute it at one input. -/
def bulkWrapsWrong : ChangeSpec := { name := "bulkWraps", fn := fun _ => fun
  | [d1, d2] => { results := [.lit (.bool false)], args := [d1, d2] }
  | _ => none }
def BulkWrapsWrongFalsely : Prop := bulkWrapsRow.holds Try.pinned (OpenSpec.ofChange bulkWrapsWrong)

/-- 'pluglaw.ScsiMakes': WHATEVER THE INPUT: true; the input reads as it did. -/
def scsiMakesSpec : ChangeSpec := { name := "scsiMakes", fn := fun _ => fun
  | [d1, d2, d3, d4, d5] => { results := [.lit (.bool true)], args := [d1, d2, d3, d4, d5] }
  | _ => none }
def scsiMakesRow : OpenClaim := { program := "ytpiamcafkjdfpaa", sum := "d2c8753b2a8409e79d138833395d733e91f706176e64a9d39bf5098afff7d408", func := "plugtree/pluglaw.ScsiMakes", spec := "scsiMakes", inPlace := ["internal/abi.NoEscape", "internal/bytealg.MakeNoZero"], apart := false }
def ScsiMakesSaid : Prop := scsiMakesRow.holds Try.pinned (OpenSpec.ofChange scsiMakesSpec)

/-- ITS FALSE NEIGHBOUR: 'it returns false'. Refute it at one input. -/
def scsiMakesWrong : ChangeSpec := { name := "scsiMakes", fn := fun _ => fun
  | [d1, d2, d3, d4, d5] => { results := [.lit (.bool false)], args := [d1, d2, d3, d4, d5] }
  | _ => none }
def ScsiMakesWrongFalsely : Prop := scsiMakesRow.holds Try.pinned (OpenSpec.ofChange scsiMakesWrong)

/-- 'pluglaw.ScsiDoes': WHATEVER THE INPUT: true; the input reads as it did. -/
def scsiDoesSpec : ChangeSpec := { name := "scsiDoes", fn := fun _ => fun
  | [d1, d2, d3] => { results := [.lit (.bool true)], args := [d1, d2, d3] }
  | _ => none }
def scsiDoesRow : OpenClaim := { program := "ytpiamcafkjdfpaa", sum := "d2c8753b2a8409e79d138833395d733e91f706176e64a9d39bf5098afff7d408", func := "plugtree/pluglaw.ScsiDoes", spec := "scsiDoes", inPlace := ["internal/abi.NoEscape", "internal/bytealg.MakeNoZero"], apart := false }
def ScsiDoesSaid : Prop := scsiDoesRow.holds Try.pinned (OpenSpec.ofChange scsiDoesSpec)

/-- ITS FALSE NEIGHBOUR: 'it returns false'. Refute it at one input. -/
def scsiDoesWrong : ChangeSpec := { name := "scsiDoes", fn := fun _ => fun
  | [d1, d2, d3] => { results := [.lit (.bool false)], args := [d1, d2, d3] }
  | _ => none }
def ScsiDoesWrongFalsely : Prop := scsiDoesRow.holds Try.pinned (OpenSpec.ofChange scsiDoesWrong)

/-- 'pluglaw.BulkServes': WHATEVER THE INPUT: true; the input reads as it did. -/
def bulkServesSpec : ChangeSpec := { name := "bulkServes", fn := fun _ => fun
  | [d1, d2, d3] => { results := [.lit (.bool true)], args := [d1, d2, d3] }
  | _ => none }
def bulkServesRow : OpenClaim := { program := "ytpiamcafkjdfpaa", sum := "d2c8753b2a8409e79d138833395d733e91f706176e64a9d39bf5098afff7d408", func := "plugtree/pluglaw.BulkServes", spec := "bulkServes", inPlace := ["internal/abi.NoEscape", "internal/bytealg.MakeNoZero", "internal/bytealg.IndexByteString"], unfollowed := true, recurses := true, apart := false }
def BulkServesSaid : Prop := bulkServesRow.holds Try.pinned (OpenSpec.ofChange bulkServesSpec)

/-- ITS FALSE NEIGHBOUR: 'it returns false'. Refute it at one input. -/
def bulkServesWrong : ChangeSpec := { name := "bulkServes", fn := fun _ => fun
  | [d1, d2, d3] => { results := [.lit (.bool false)], args := [d1, d2, d3] }
  | _ => none }
def BulkServesWrongFalsely : Prop := bulkServesRow.holds Try.pinned (OpenSpec.ofChange bulkServesWrong)

/-- 'pluglaw.StoreCycles': WHATEVER THE INPUT: true; the input reads as it did. -/
def storeCyclesSpec : ChangeSpec := { name := "storeCycles", fn := fun _ => fun
  | [d1, d2, d3, d4, d5] => { results := [.lit (.bool true)], args := [d1, d2, d3, d4, d5] }
  | _ => none }
def storeCyclesRow : OpenClaim := { program := "ytpiamcafkjdfpaa", sum := "d2c8753b2a8409e79d138833395d733e91f706176e64a9d39bf5098afff7d408", func := "plugtree/pluglaw.StoreCycles", spec := "storeCycles", inPlace := ["internal/abi.NoEscape", "internal/bytealg.MakeNoZero", "internal/bytealg.IndexByteString"], unfollowed := true, recurses := true, apart := false }
def StoreCyclesSaid : Prop := storeCyclesRow.holds Try.pinned (OpenSpec.ofChange storeCyclesSpec)

/-- ITS FALSE NEIGHBOUR: 'it returns false'. Refute it at one input. -/
def storeCyclesWrong : ChangeSpec := { name := "storeCycles", fn := fun _ => fun
  | [d1, d2, d3, d4, d5] => { results := [.lit (.bool false)], args := [d1, d2, d3, d4, d5] }
  | _ => none }
def StoreCyclesWrongFalsely : Prop := storeCyclesRow.holds Try.pinned (OpenSpec.ofChange storeCyclesWrong)

/-- 'pluglaw.StoreReads': WHATEVER THE INPUT: true; the input reads as it did. -/
def storeReadsSpec : ChangeSpec := { name := "storeReads", fn := fun _ => fun
  | [d1, d2, d3, d4] => { results := [.lit (.bool true)], args := [d1, d2, d3, d4] }
  | _ => none }
def storeReadsRow : OpenClaim := { program := "ytpiamcafkjdfpaa", sum := "d2c8753b2a8409e79d138833395d733e91f706176e64a9d39bf5098afff7d408", func := "plugtree/pluglaw.StoreReads", spec := "storeReads", inPlace := ["internal/abi.NoEscape", "internal/bytealg.MakeNoZero", "internal/bytealg.IndexByteString"], unfollowed := true, recurses := true, apart := false }
def StoreReadsSaid : Prop := storeReadsRow.holds Try.pinned (OpenSpec.ofChange storeReadsSpec)

/-- ITS FALSE NEIGHBOUR: 'it returns false'. Refute it at one input. -/
def storeReadsWrong : ChangeSpec := { name := "storeReads", fn := fun _ => fun
  | [d1, d2, d3, d4] => { results := [.lit (.bool false)], args := [d1, d2, d3, d4] }
  | _ => none }
def StoreReadsWrongFalsely : Prop := storeReadsRow.holds Try.pinned (OpenSpec.ofChange storeReadsWrong)

/-- 'pluglaw.StoreWrites': WHATEVER THE INPUT: true; the input reads as it did. -/
def storeWritesSpec : ChangeSpec := { name := "storeWrites", fn := fun _ => fun
  | [d1, d2, d3, d4] => { results := [.lit (.bool true)], args := [d1, d2, d3, d4] }
  | _ => none }
def storeWritesRow : OpenClaim := { program := "ytpiamcafkjdfpaa", sum := "d2c8753b2a8409e79d138833395d733e91f706176e64a9d39bf5098afff7d408", func := "plugtree/pluglaw.StoreWrites", spec := "storeWrites", inPlace := ["internal/abi.NoEscape", "internal/bytealg.MakeNoZero", "internal/bytealg.IndexByteString"], unfollowed := true, recurses := true, apart := false }
def StoreWritesSaid : Prop := storeWritesRow.holds Try.pinned (OpenSpec.ofChange storeWritesSpec)

/-- ITS FALSE NEIGHBOUR: 'it returns false'. Refute it at one input. -/
def storeWritesWrong : ChangeSpec := { name := "storeWrites", fn := fun _ => fun
  | [d1, d2, d3, d4] => { results := [.lit (.bool false)], args := [d1, d2, d3, d4] }
  | _ => none }
def StoreWritesWrongFalsely : Prop := storeWritesRow.holds Try.pinned (OpenSpec.ofChange storeWritesWrong)

/-- 'pluglaw.RegisterLets': WHATEVER THE INPUT: true; the input reads as it did. -/
def registerLetsSpec : ChangeSpec := { name := "registerLets", fn := fun _ => fun
  | [d1, d2] => { results := [.lit (.bool true)], args := [d1, d2] }
  | _ => none }
def registerLetsRow : OpenClaim := { program := "ytpiamcafkjdfpaa", sum := "d2c8753b2a8409e79d138833395d733e91f706176e64a9d39bf5098afff7d408", func := "plugtree/pluglaw.RegisterLets", spec := "registerLets", apart := false }
def RegisterLetsSaid : Prop := registerLetsRow.holds Try.pinned (OpenSpec.ofChange registerLetsSpec)

/-- ITS FALSE NEIGHBOUR: 'it returns false'. Refute it at one input. -/
def registerLetsWrong : ChangeSpec := { name := "registerLets", fn := fun _ => fun
  | [d1, d2] => { results := [.lit (.bool false)], args := [d1, d2] }
  | _ => none }
def RegisterLetsWrongFalsely : Prop := registerLetsRow.holds Try.pinned (OpenSpec.ofChange registerLetsWrong)

/-- 'pluglaw.RegisterLooks': WHATEVER THE INPUT: true; the input reads as it did. -/
def registerLooksSpec : ChangeSpec := { name := "registerLooks", fn := fun _ => fun
  | [d1, d2] => { results := [.lit (.bool true)], args := [d1, d2] }
  | _ => none }
def registerLooksRow : OpenClaim := { program := "ytpiamcafkjdfpaa", sum := "d2c8753b2a8409e79d138833395d733e91f706176e64a9d39bf5098afff7d408", func := "plugtree/pluglaw.RegisterLooks", spec := "registerLooks", apart := false }
def RegisterLooksSaid : Prop := registerLooksRow.holds Try.pinned (OpenSpec.ofChange registerLooksSpec)

/-- ITS FALSE NEIGHBOUR: 'it returns false'. Refute it at one input. -/
def registerLooksWrong : ChangeSpec := { name := "registerLooks", fn := fun _ => fun
  | [d1, d2] => { results := [.lit (.bool false)], args := [d1, d2] }
  | _ => none }
def RegisterLooksWrongFalsely : Prop := registerLooksRow.holds Try.pinned (OpenSpec.ofChange registerLooksWrong)

/- THE SECOND FORM. 'bulk': how many values and letters a reading holds, each counted each time it is reached (what is shared counts as often as it is met; a slice's spare places count too). A statement '..UptoSaid' is the law's where the arguments, and the package variables that the reading takes, are together of bulk at most 1048576: NARROWER than '..Said'. Prove '..Said' where nothing that the law and all that it calls make is longer than what came in: it says more and counts as full. Else prove '..UptoSaid'. A law counts once. -/
mutual
def uptoBulk {H : Type} : DataW H → Nat
  | .lit (.string bytes) => bytes.length + 1
  | .lit _ => 1
  | .nil => 1
  | .ptr d => uptoBulk d + 1
  | .slice elems spare => uptoBulkAll elems + uptoBulkAll spare + 1
  | .agg parts => uptoBulkAll parts + 1
  | .iface _ d => uptoBulk d + 1
  | .map entries => uptoBulkEntries entries + 1
  | .held _ => 1
def uptoBulkAll {H : Type} : List (DataW H) → Nat
  | [] => 0
  | d :: r => uptoBulk d + uptoBulkAll r
def uptoBulkEntries {H : Type} : List (Lit × DataW H) → Nat
  | [] => 0
  | x :: r => uptoBulkEntry x + uptoBulkEntries r
def uptoBulkEntry {H : Type} : Lit × DataW H → Nat
  | (.string bytes, d) => bytes.length + uptoBulk d + 1
  | (_, d) => uptoBulk d + 1
 end
def uptoSmall : (H : Type) → List (DataW H) → Bool := fun _ ds => decide (uptoBulkAll ds ≤ 1048576)
def OpenSpec.upto (s : _root_.Go.ChangeSpec) : _root_.Go.OpenSpec := { _root_.Go.OpenSpec.ofChange s with cond := some uptoSmall }

/-- 'pluglaw.BulkTells', WHERE WHAT IT READS IS OF BULK AT MOST 1048576: true; the input reads as it did. -/
def bulkTellsUptoRow : OpenClaim := { program := "ytpiamcafkjdfpaa", sum := "d2c8753b2a8409e79d138833395d733e91f706176e64a9d39bf5098afff7d408", func := "plugtree/pluglaw.BulkTells", spec := "bulkTells", apart := false, narrowed := true }
def BulkTellsUptoSaid : Prop := bulkTellsUptoRow.holds Try.pinned (OpenSpec.upto bulkTellsSpec)

/-- 'pluglaw.BulkJudges', WHERE WHAT IT READS IS OF BULK AT MOST 1048576: true; the input reads as it did. -/
def bulkJudgesUptoRow : OpenClaim := { program := "ytpiamcafkjdfpaa", sum := "d2c8753b2a8409e79d138833395d733e91f706176e64a9d39bf5098afff7d408", func := "plugtree/pluglaw.BulkJudges", spec := "bulkJudges", inPlace := ["internal/bytealg.IndexByteString"], apart := false, narrowed := true }
def BulkJudgesUptoSaid : Prop := bulkJudgesUptoRow.holds Try.pinned (OpenSpec.upto bulkJudgesSpec)

/-- 'pluglaw.BulkWraps', WHERE WHAT IT READS IS OF BULK AT MOST 1048576: true; the input reads as it did. -/
def bulkWrapsUptoRow : OpenClaim := { program := "ytpiamcafkjdfpaa", sum := "d2c8753b2a8409e79d138833395d733e91f706176e64a9d39bf5098afff7d408", func := "plugtree/pluglaw.BulkWraps", spec := "bulkWraps", inPlace := ["internal/abi.NoEscape", "internal/bytealg.MakeNoZero"], apart := false, narrowed := true }
def BulkWrapsUptoSaid : Prop := bulkWrapsUptoRow.holds Try.pinned (OpenSpec.upto bulkWrapsSpec)

/-- 'pluglaw.ScsiMakes', WHERE WHAT IT READS IS OF BULK AT MOST 1048576: true; the input reads as it did. -/
def scsiMakesUptoRow : OpenClaim := { program := "ytpiamcafkjdfpaa", sum := "d2c8753b2a8409e79d138833395d733e91f706176e64a9d39bf5098afff7d408", func := "plugtree/pluglaw.ScsiMakes", spec := "scsiMakes", inPlace := ["internal/abi.NoEscape", "internal/bytealg.MakeNoZero"], apart := false, narrowed := true }
def ScsiMakesUptoSaid : Prop := scsiMakesUptoRow.holds Try.pinned (OpenSpec.upto scsiMakesSpec)

/-- 'pluglaw.ScsiDoes', WHERE WHAT IT READS IS OF BULK AT MOST 1048576: true; the input reads as it did. -/
def scsiDoesUptoRow : OpenClaim := { program := "ytpiamcafkjdfpaa", sum := "d2c8753b2a8409e79d138833395d733e91f706176e64a9d39bf5098afff7d408", func := "plugtree/pluglaw.ScsiDoes", spec := "scsiDoes", inPlace := ["internal/abi.NoEscape", "internal/bytealg.MakeNoZero"], apart := false, narrowed := true }
def ScsiDoesUptoSaid : Prop := scsiDoesUptoRow.holds Try.pinned (OpenSpec.upto scsiDoesSpec)

/-- 'pluglaw.BulkServes', WHERE WHAT IT READS IS OF BULK AT MOST 1048576: true; the input reads as it did. -/
def bulkServesUptoRow : OpenClaim := { program := "ytpiamcafkjdfpaa", sum := "d2c8753b2a8409e79d138833395d733e91f706176e64a9d39bf5098afff7d408", func := "plugtree/pluglaw.BulkServes", spec := "bulkServes", inPlace := ["internal/abi.NoEscape", "internal/bytealg.MakeNoZero", "internal/bytealg.IndexByteString"], unfollowed := true, recurses := true, apart := false, narrowed := true }
def BulkServesUptoSaid : Prop := bulkServesUptoRow.holds Try.pinned (OpenSpec.upto bulkServesSpec)

/-- 'pluglaw.StoreCycles', WHERE WHAT IT READS IS OF BULK AT MOST 1048576: true; the input reads as it did. -/
def storeCyclesUptoRow : OpenClaim := { program := "ytpiamcafkjdfpaa", sum := "d2c8753b2a8409e79d138833395d733e91f706176e64a9d39bf5098afff7d408", func := "plugtree/pluglaw.StoreCycles", spec := "storeCycles", inPlace := ["internal/abi.NoEscape", "internal/bytealg.MakeNoZero", "internal/bytealg.IndexByteString"], unfollowed := true, recurses := true, apart := false, narrowed := true }
def StoreCyclesUptoSaid : Prop := storeCyclesUptoRow.holds Try.pinned (OpenSpec.upto storeCyclesSpec)

/-- 'pluglaw.StoreReads', WHERE WHAT IT READS IS OF BULK AT MOST 1048576: true; the input reads as it did. -/
def storeReadsUptoRow : OpenClaim := { program := "ytpiamcafkjdfpaa", sum := "d2c8753b2a8409e79d138833395d733e91f706176e64a9d39bf5098afff7d408", func := "plugtree/pluglaw.StoreReads", spec := "storeReads", inPlace := ["internal/abi.NoEscape", "internal/bytealg.MakeNoZero", "internal/bytealg.IndexByteString"], unfollowed := true, recurses := true, apart := false, narrowed := true }
def StoreReadsUptoSaid : Prop := storeReadsUptoRow.holds Try.pinned (OpenSpec.upto storeReadsSpec)

/-- 'pluglaw.StoreWrites', WHERE WHAT IT READS IS OF BULK AT MOST 1048576: true; the input reads as it did. -/
def storeWritesUptoRow : OpenClaim := { program := "ytpiamcafkjdfpaa", sum := "d2c8753b2a8409e79d138833395d733e91f706176e64a9d39bf5098afff7d408", func := "plugtree/pluglaw.StoreWrites", spec := "storeWrites", inPlace := ["internal/abi.NoEscape", "internal/bytealg.MakeNoZero", "internal/bytealg.IndexByteString"], unfollowed := true, recurses := true, apart := false, narrowed := true }
def StoreWritesUptoSaid : Prop := storeWritesUptoRow.holds Try.pinned (OpenSpec.upto storeWritesSpec)

/-- 'pluglaw.RegisterLets', WHERE WHAT IT READS IS OF BULK AT MOST 1048576: true; the input reads as it did. -/
def registerLetsUptoRow : OpenClaim := { program := "ytpiamcafkjdfpaa", sum := "d2c8753b2a8409e79d138833395d733e91f706176e64a9d39bf5098afff7d408", func := "plugtree/pluglaw.RegisterLets", spec := "registerLets", apart := false, narrowed := true }
def RegisterLetsUptoSaid : Prop := registerLetsUptoRow.holds Try.pinned (OpenSpec.upto registerLetsSpec)

/-- 'pluglaw.RegisterLooks', WHERE WHAT IT READS IS OF BULK AT MOST 1048576: true; the input reads as it did. -/
def registerLooksUptoRow : OpenClaim := { program := "ytpiamcafkjdfpaa", sum := "d2c8753b2a8409e79d138833395d733e91f706176e64a9d39bf5098afff7d408", func := "plugtree/pluglaw.RegisterLooks", spec := "registerLooks", apart := false, narrowed := true }
def RegisterLooksUptoSaid : Prop := registerLooksUptoRow.holds Try.pinned (OpenSpec.upto registerLooksSpec)

end Rows
end Go.Proofs.Ytpiamcafkjdfpaa
