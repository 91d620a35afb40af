/-
  No cell of these rows narrows 'for every input' (looked for: loops, veiled, ifaces, maps, wideKeys, modest, calm, conditions, laid).
  DERIVED. THE GIVEN ROWS OF THIS SEAT. 11 by the template 'for every input the law returns true; each argument reads behind the call as it read before'; 0 by the template 'total and deterministic' (their statements: YtmcjcioifgaihaaTotals.lean).
  GIVEN WITH THE SEED: the statements are not yours to turn. If you find one false, say at which input.
  Laid BY PROGRAM, IN A SANDBOX (cutbox-rows.mjs): the forced cells as the released guide's own fill.sh prints them over the translation 915dbd42cb2211fc… (all of the seat's roots in one cut). By AI agents, Wed Nov 11 2026. No macro, syntax, notation, axiom, sorry.
-/
import Derived.Test.YtmcjcioifgaihaaChecked
import GoSem.Claim
import GoSem.ClaimJoined
import GoSem.ClaimMapViews
import Derived.JoinedTies
import Derived.KernelRfl
namespace Go.Proofs.Ytmcjcioifgaihaa
/- THE CELL 'sum', in the pinned program and in every row, IS THE sha256 OF THE DUMP (.gsa) THAT YtmcjcioifgaihaaProg.lean LOADS. Nothing in Lean hashes anything: it is a label: what it is worth is what the hold of that sum in a sandbox is worth. -/
noncomputable def Try.pinned : Pinned := { name := "ytmcjcioifgaihaa", sum := "915dbd42cb2211fc6040846835c3ae97e39e4cacfaa05d0f2999b06dfdf385bc", checked := Try.checked }
namespace Rows
def none {H : Type} : Left H := { results := [], args := [] }

/-- 'pluglaw.GreetAsks': WHATEVER THE INPUT: true; the input reads as it did. -/
def greetAsksSpec : ChangeSpec := { name := "greetAsks", fn := fun _ => fun
  | [d1, d2] => { results := [.lit (.bool true)], args := [d1, d2] }
  | _ => none }
def greetAsksRow : OpenClaim := { program := "ytmcjcioifgaihaa", sum := "915dbd42cb2211fc6040846835c3ae97e39e4cacfaa05d0f2999b06dfdf385bc", func := "plugtree/pluglaw.GreetAsks", spec := "greetAsks", unfollowed := true, recurses := true, plainKeys := false, apart := false }
def GreetAsksSaid : Prop := greetAsksRow.holds Try.pinned (OpenSpec.ofChange greetAsksSpec)

/-- ITS FALSE NEIGHBOUR: 'it returns false'. Refute it at one input. -/
def greetAsksWrong : ChangeSpec := { name := "greetAsks", fn := fun _ => fun
  | [d1, d2] => { results := [.lit (.bool false)], args := [d1, d2] }
  | _ => none }
def GreetAsksWrongFalsely : Prop := greetAsksRow.holds Try.pinned (OpenSpec.ofChange greetAsksWrong)

/-- 'pluglaw.DescWrites': WHATEVER THE INPUT: true; the input reads as it did. -/
def descWritesSpec : ChangeSpec := { name := "descWrites", fn := fun _ => fun
  | [d] => { results := [.lit (.bool true)], args := [d] }
  | _ => none }
def descWritesRow : OpenClaim := { program := "ytmcjcioifgaihaa", sum := "915dbd42cb2211fc6040846835c3ae97e39e4cacfaa05d0f2999b06dfdf385bc", func := "plugtree/pluglaw.DescWrites", spec := "descWrites", inPlace := ["internal/abi.NoEscape", "internal/bytealg.MakeNoZero"], plainKeys := false, apart := false }
def DescWritesSaid : Prop := descWritesRow.holds Try.pinned (OpenSpec.ofChange descWritesSpec)

/-- ITS FALSE NEIGHBOUR: 'it returns false'. Refute it at one input. -/
def descWritesWrong : ChangeSpec := { name := "descWrites", fn := fun _ => fun
  | [d] => { results := [.lit (.bool false)], args := [d] }
  | _ => none }
def DescWritesWrongFalsely : Prop := descWritesRow.holds Try.pinned (OpenSpec.ofChange descWritesWrong)

/-- 'pluglaw.TopoChecks': WHATEVER THE INPUT: true; the input reads as it did. -/
def topoChecksSpec : ChangeSpec := { name := "topoChecks", fn := fun _ => fun
  | [d1, d2] => { results := [.lit (.bool true)], args := [d1, d2] }
  | _ => none }
def topoChecksRow : OpenClaim := { program := "ytmcjcioifgaihaa", sum := "915dbd42cb2211fc6040846835c3ae97e39e4cacfaa05d0f2999b06dfdf385bc", func := "plugtree/pluglaw.TopoChecks", spec := "topoChecks", unfollowed := true, recurses := true, plainKeys := false, apart := false }
def TopoChecksSaid : Prop := topoChecksRow.holds Try.pinned (OpenSpec.ofChange topoChecksSpec)

/-- ITS FALSE NEIGHBOUR: 'it returns false'. Refute it at one input. -/
def topoChecksWrong : ChangeSpec := { name := "topoChecks", fn := fun _ => fun
  | [d1, d2] => { results := [.lit (.bool false)], args := [d1, d2] }
  | _ => none }
def TopoChecksWrongFalsely : Prop := topoChecksRow.holds Try.pinned (OpenSpec.ofChange topoChecksWrong)

/-- 'pluglaw.BulkWraps': WHATEVER THE INPUT: true; the input reads as it did. -/
def bulkWrapsSpec : ChangeSpec := { name := "bulkWraps", fn := fun _ => fun
  | [d1, d2] => { results := [.lit (.bool true)], args := [d1, d2] }
  | _ => none }
def bulkWrapsRow : OpenClaim := { program := "ytmcjcioifgaihaa", sum := "915dbd42cb2211fc6040846835c3ae97e39e4cacfaa05d0f2999b06dfdf385bc", func := "plugtree/pluglaw.BulkWraps", spec := "bulkWraps", inPlace := ["internal/abi.NoEscape", "internal/bytealg.MakeNoZero"], plainKeys := false, apart := false }
def BulkWrapsSaid : Prop := bulkWrapsRow.holds Try.pinned (OpenSpec.ofChange bulkWrapsSpec)

/-- ITS FALSE NEIGHBOUR: 'it returns false'. Refute it at one input. -/
def bulkWrapsWrong : ChangeSpec := { name := "bulkWraps", fn := fun _ => fun
  | [d1, d2] => { results := [.lit (.bool false)], args := [d1, d2] }
  | _ => none }
def BulkWrapsWrongFalsely : Prop := bulkWrapsRow.holds Try.pinned (OpenSpec.ofChange bulkWrapsWrong)

/-- 'pluglaw.StrikeCarries': WHATEVER THE INPUT: true; the input reads as it did. -/
def strikeCarriesSpec : ChangeSpec := { name := "strikeCarries", fn := fun _ => fun
  | [d1, d2, d3] => { results := [.lit (.bool true)], args := [d1, d2, d3] }
  | _ => none }
def strikeCarriesRow : OpenClaim := { program := "ytmcjcioifgaihaa", sum := "915dbd42cb2211fc6040846835c3ae97e39e4cacfaa05d0f2999b06dfdf385bc", func := "plugtree/pluglaw.StrikeCarries", spec := "strikeCarries", inPlace := ["internal/abi.NoEscape", "internal/bytealg.MakeNoZero"], unfollowed := true, recurses := true, plainKeys := false, apart := false }
def StrikeCarriesSaid : Prop := strikeCarriesRow.holds Try.pinned (OpenSpec.ofChange strikeCarriesSpec)

/-- ITS FALSE NEIGHBOUR: 'it returns false'. Refute it at one input. -/
def strikeCarriesWrong : ChangeSpec := { name := "strikeCarries", fn := fun _ => fun
  | [d1, d2, d3] => { results := [.lit (.bool false)], args := [d1, d2, d3] }
  | _ => none }
def StrikeCarriesWrongFalsely : Prop := strikeCarriesRow.holds Try.pinned (OpenSpec.ofChange strikeCarriesWrong)

/-- 'pluglaw.HubSays': WHATEVER THE INPUT: true; the input reads as it did. -/
def hubSaysSpec : ChangeSpec := { name := "hubSays", fn := fun _ => fun
  | [d1, d2] => { results := [.lit (.bool true)], args := [d1, d2] }
  | _ => none }
def hubSaysRow : OpenClaim := { program := "ytmcjcioifgaihaa", sum := "915dbd42cb2211fc6040846835c3ae97e39e4cacfaa05d0f2999b06dfdf385bc", func := "plugtree/pluglaw.HubSays", spec := "hubSays", unfollowed := true, recurses := true, plainKeys := false, apart := false }
def HubSaysSaid : Prop := hubSaysRow.holds Try.pinned (OpenSpec.ofChange hubSaysSpec)

/-- ITS FALSE NEIGHBOUR: 'it returns false'. Refute it at one input. -/
def hubSaysWrong : ChangeSpec := { name := "hubSays", fn := fun _ => fun
  | [d1, d2] => { results := [.lit (.bool false)], args := [d1, d2] }
  | _ => none }
def HubSaysWrongFalsely : Prop := hubSaysRow.holds Try.pinned (OpenSpec.ofChange hubSaysWrong)

/-- 'pluglaw.TopoUnplugs': WHATEVER THE INPUT: true; the input reads as it did. -/
def topoUnplugsSpec : ChangeSpec := { name := "topoUnplugs", fn := fun _ => fun
  | [d1, d2] => { results := [.lit (.bool true)], args := [d1, d2] }
  | _ => none }
def topoUnplugsRow : OpenClaim := { program := "ytmcjcioifgaihaa", sum := "915dbd42cb2211fc6040846835c3ae97e39e4cacfaa05d0f2999b06dfdf385bc", func := "plugtree/pluglaw.TopoUnplugs", spec := "topoUnplugs", unfollowed := true, recurses := true, plainKeys := false, apart := false }
def TopoUnplugsSaid : Prop := topoUnplugsRow.holds Try.pinned (OpenSpec.ofChange topoUnplugsSpec)

/-- ITS FALSE NEIGHBOUR: 'it returns false'. Refute it at one input. -/
def topoUnplugsWrong : ChangeSpec := { name := "topoUnplugs", fn := fun _ => fun
  | [d1, d2] => { results := [.lit (.bool false)], args := [d1, d2] }
  | _ => none }
def TopoUnplugsWrongFalsely : Prop := topoUnplugsRow.holds Try.pinned (OpenSpec.ofChange topoUnplugsWrong)

/-- 'pluglaw.ScsiMakes': WHATEVER THE INPUT: true; the input reads as it did. -/
def scsiMakesSpec : ChangeSpec := { name := "scsiMakes", fn := fun _ => fun
  | [d1, d2, d3, d4, d5] => { results := [.lit (.bool true)], args := [d1, d2, d3, d4, d5] }
  | _ => none }
def scsiMakesRow : OpenClaim := { program := "ytmcjcioifgaihaa", sum := "915dbd42cb2211fc6040846835c3ae97e39e4cacfaa05d0f2999b06dfdf385bc", func := "plugtree/pluglaw.ScsiMakes", spec := "scsiMakes", inPlace := ["internal/abi.NoEscape", "internal/bytealg.MakeNoZero"], plainKeys := false, apart := false }
def ScsiMakesSaid : Prop := scsiMakesRow.holds Try.pinned (OpenSpec.ofChange scsiMakesSpec)

/-- ITS FALSE NEIGHBOUR: 'it returns false'. Refute it at one input. -/
def scsiMakesWrong : ChangeSpec := { name := "scsiMakes", fn := fun _ => fun
  | [d1, d2, d3, d4, d5] => { results := [.lit (.bool false)], args := [d1, d2, d3, d4, d5] }
  | _ => none }
def ScsiMakesWrongFalsely : Prop := scsiMakesRow.holds Try.pinned (OpenSpec.ofChange scsiMakesWrong)

/-- 'pluglaw.BudgetPlans': WHATEVER THE INPUT: true; the input reads as it did. -/
def budgetPlansSpec : ChangeSpec := { name := "budgetPlans", fn := fun _ => fun
  | [d1, d2] => { results := [.lit (.bool true)], args := [d1, d2] }
  | _ => none }
def budgetPlansRow : OpenClaim := { program := "ytmcjcioifgaihaa", sum := "915dbd42cb2211fc6040846835c3ae97e39e4cacfaa05d0f2999b06dfdf385bc", func := "plugtree/pluglaw.BudgetPlans", spec := "budgetPlans", unfollowed := true, recurses := true, plainKeys := false, apart := false }
def BudgetPlansSaid : Prop := budgetPlansRow.holds Try.pinned (OpenSpec.ofChange budgetPlansSpec)

/-- ITS FALSE NEIGHBOUR: 'it returns false'. Refute it at one input. -/
def budgetPlansWrong : ChangeSpec := { name := "budgetPlans", fn := fun _ => fun
  | [d1, d2] => { results := [.lit (.bool false)], args := [d1, d2] }
  | _ => none }
def BudgetPlansWrongFalsely : Prop := budgetPlansRow.holds Try.pinned (OpenSpec.ofChange budgetPlansWrong)

/-- 'pluglaw.GadgetChecks': WHATEVER THE INPUT: true; the input reads as it did. -/
def gadgetChecksSpec : ChangeSpec := { name := "gadgetChecks", fn := fun _ => fun
  | [d] => { results := [.lit (.bool true)], args := [d] }
  | _ => none }
def gadgetChecksRow : OpenClaim := { program := "ytmcjcioifgaihaa", sum := "915dbd42cb2211fc6040846835c3ae97e39e4cacfaa05d0f2999b06dfdf385bc", func := "plugtree/pluglaw.GadgetChecks", spec := "gadgetChecks", inPlace := ["internal/abi.NoEscape", "internal/bytealg.MakeNoZero"], unfollowed := true, recurses := true, plainKeys := false, apart := false }
def GadgetChecksSaid : Prop := gadgetChecksRow.holds Try.pinned (OpenSpec.ofChange gadgetChecksSpec)

/-- ITS FALSE NEIGHBOUR: 'it returns false'. Refute it at one input. -/
def gadgetChecksWrong : ChangeSpec := { name := "gadgetChecks", fn := fun _ => fun
  | [d] => { results := [.lit (.bool false)], args := [d] }
  | _ => none }
def GadgetChecksWrongFalsely : Prop := gadgetChecksRow.holds Try.pinned (OpenSpec.ofChange gadgetChecksWrong)

/-- 'pluglaw.DescReads': WHATEVER THE INPUT: true; the input reads as it did. -/
def descReadsSpec : ChangeSpec := { name := "descReads", fn := fun _ => fun
  | [d] => { results := [.lit (.bool true)], args := [d] }
  | _ => none }
def descReadsRow : OpenClaim := { program := "ytmcjcioifgaihaa", sum := "915dbd42cb2211fc6040846835c3ae97e39e4cacfaa05d0f2999b06dfdf385bc", func := "plugtree/pluglaw.DescReads", spec := "descReads", inPlace := ["internal/abi.NoEscape", "internal/bytealg.MakeNoZero"], unfollowed := true, recurses := true, plainKeys := false, apart := false }
def DescReadsSaid : Prop := descReadsRow.holds Try.pinned (OpenSpec.ofChange descReadsSpec)

/-- ITS FALSE NEIGHBOUR: 'it returns false'. Refute it at one input. -/
def descReadsWrong : ChangeSpec := { name := "descReads", fn := fun _ => fun
  | [d] => { results := [.lit (.bool false)], args := [d] }
  | _ => none }
def DescReadsWrongFalsely : Prop := descReadsRow.holds Try.pinned (OpenSpec.ofChange descReadsWrong)

/- THE SECOND FORM. 'bulk': how many values and letters a reading holds, each counted each time it is reached (what is shared counts as often as it is met; a slice's spare places count too). A statement '..UptoSaid' is the law's where the arguments, and the package variables that the reading takes, are together of bulk at most 1048576: NARROWER than '..Said'. Prove '..Said' where nothing that the law and all that it calls make is longer than what came in: it says more and counts as full. Else prove '..UptoSaid'. A law counts once. -/
mutual
def uptoBulk {H : Type} : DataW H → Nat
  | .lit (.string bytes) => bytes.length + 1
  | .lit _ => 1
  | .nil => 1
  | .ptr d => uptoBulk d + 1
  | .slice elems spare => uptoBulkAll elems + uptoBulkAll spare + 1
  | .agg parts => uptoBulkAll parts + 1
  | .iface _ d => uptoBulk d + 1
  | .map entries => uptoBulkEntries entries + 1
  | .held _ => 1
def uptoBulkAll {H : Type} : List (DataW H) → Nat
  | [] => 0
  | d :: r => uptoBulk d + uptoBulkAll r
def uptoBulkEntries {H : Type} : List (Lit × DataW H) → Nat
  | [] => 0
  | x :: r => uptoBulkEntry x + uptoBulkEntries r
def uptoBulkEntry {H : Type} : Lit × DataW H → Nat
  | (.string bytes, d) => bytes.length + uptoBulk d + 1
  | (_, d) => uptoBulk d + 1
 end
def uptoSmall : (H : Type) → List (DataW H) → Bool := fun _ ds => decide (uptoBulkAll ds ≤ 1048576)
def OpenSpec.upto (s : _root_.Go.ChangeSpec) : _root_.Go.OpenSpec := { _root_.Go.OpenSpec.ofChange s with cond := some uptoSmall }

/-- 'pluglaw.GreetAsks', WHERE WHAT IT READS IS OF BULK AT MOST 1048576: true; the input reads as it did. -/
def greetAsksUptoRow : OpenClaim := { program := "ytmcjcioifgaihaa", sum := "915dbd42cb2211fc6040846835c3ae97e39e4cacfaa05d0f2999b06dfdf385bc", func := "plugtree/pluglaw.GreetAsks", spec := "greetAsks", unfollowed := true, recurses := true, plainKeys := false, apart := false, narrowed := true }
def GreetAsksUptoSaid : Prop := greetAsksUptoRow.holds Try.pinned (OpenSpec.upto greetAsksSpec)

/-- 'pluglaw.DescWrites', WHERE WHAT IT READS IS OF BULK AT MOST 1048576: true; the input reads as it did. -/
def descWritesUptoRow : OpenClaim := { program := "ytmcjcioifgaihaa", sum := "915dbd42cb2211fc6040846835c3ae97e39e4cacfaa05d0f2999b06dfdf385bc", func := "plugtree/pluglaw.DescWrites", spec := "descWrites", inPlace := ["internal/abi.NoEscape", "internal/bytealg.MakeNoZero"], plainKeys := false, apart := false, narrowed := true }
def DescWritesUptoSaid : Prop := descWritesUptoRow.holds Try.pinned (OpenSpec.upto descWritesSpec)

/-- 'pluglaw.TopoChecks', WHERE WHAT IT READS IS OF BULK AT MOST 1048576: true; the input reads as it did. -/
def topoChecksUptoRow : OpenClaim := { program := "ytmcjcioifgaihaa", sum := "915dbd42cb2211fc6040846835c3ae97e39e4cacfaa05d0f2999b06dfdf385bc", func := "plugtree/pluglaw.TopoChecks", spec := "topoChecks", unfollowed := true, recurses := true, plainKeys := false, apart := false, narrowed := true }
def TopoChecksUptoSaid : Prop := topoChecksUptoRow.holds Try.pinned (OpenSpec.upto topoChecksSpec)

/-- 'pluglaw.BulkWraps', WHERE WHAT IT READS IS OF BULK AT MOST 1048576: true; the input reads as it did. -/
def bulkWrapsUptoRow : OpenClaim := { program := "ytmcjcioifgaihaa", sum := "915dbd42cb2211fc6040846835c3ae97e39e4cacfaa05d0f2999b06dfdf385bc", func := "plugtree/pluglaw.BulkWraps", spec := "bulkWraps", inPlace := ["internal/abi.NoEscape", "internal/bytealg.MakeNoZero"], plainKeys := false, apart := false, narrowed := true }
def BulkWrapsUptoSaid : Prop := bulkWrapsUptoRow.holds Try.pinned (OpenSpec.upto bulkWrapsSpec)

/-- 'pluglaw.StrikeCarries', WHERE WHAT IT READS IS OF BULK AT MOST 1048576: true; the input reads as it did. -/
def strikeCarriesUptoRow : OpenClaim := { program := "ytmcjcioifgaihaa", sum := "915dbd42cb2211fc6040846835c3ae97e39e4cacfaa05d0f2999b06dfdf385bc", func := "plugtree/pluglaw.StrikeCarries", spec := "strikeCarries", inPlace := ["internal/abi.NoEscape", "internal/bytealg.MakeNoZero"], unfollowed := true, recurses := true, plainKeys := false, apart := false, narrowed := true }
def StrikeCarriesUptoSaid : Prop := strikeCarriesUptoRow.holds Try.pinned (OpenSpec.upto strikeCarriesSpec)

/-- 'pluglaw.HubSays', WHERE WHAT IT READS IS OF BULK AT MOST 1048576: true; the input reads as it did. -/
def hubSaysUptoRow : OpenClaim := { program := "ytmcjcioifgaihaa", sum := "915dbd42cb2211fc6040846835c3ae97e39e4cacfaa05d0f2999b06dfdf385bc", func := "plugtree/pluglaw.HubSays", spec := "hubSays", unfollowed := true, recurses := true, plainKeys := false, apart := false, narrowed := true }
def HubSaysUptoSaid : Prop := hubSaysUptoRow.holds Try.pinned (OpenSpec.upto hubSaysSpec)

/-- 'pluglaw.TopoUnplugs', WHERE WHAT IT READS IS OF BULK AT MOST 1048576: true; the input reads as it did. -/
def topoUnplugsUptoRow : OpenClaim := { program := "ytmcjcioifgaihaa", sum := "915dbd42cb2211fc6040846835c3ae97e39e4cacfaa05d0f2999b06dfdf385bc", func := "plugtree/pluglaw.TopoUnplugs", spec := "topoUnplugs", unfollowed := true, recurses := true, plainKeys := false, apart := false, narrowed := true }
def TopoUnplugsUptoSaid : Prop := topoUnplugsUptoRow.holds Try.pinned (OpenSpec.upto topoUnplugsSpec)

/-- 'pluglaw.ScsiMakes', WHERE WHAT IT READS IS OF BULK AT MOST 1048576: true; the input reads as it did. -/
def scsiMakesUptoRow : OpenClaim := { program := "ytmcjcioifgaihaa", sum := "915dbd42cb2211fc6040846835c3ae97e39e4cacfaa05d0f2999b06dfdf385bc", func := "plugtree/pluglaw.ScsiMakes", spec := "scsiMakes", inPlace := ["internal/abi.NoEscape", "internal/bytealg.MakeNoZero"], plainKeys := false, apart := false, narrowed := true }
def ScsiMakesUptoSaid : Prop := scsiMakesUptoRow.holds Try.pinned (OpenSpec.upto scsiMakesSpec)

/-- 'pluglaw.BudgetPlans', WHERE WHAT IT READS IS OF BULK AT MOST 1048576: true; the input reads as it did. -/
def budgetPlansUptoRow : OpenClaim := { program := "ytmcjcioifgaihaa", sum := "915dbd42cb2211fc6040846835c3ae97e39e4cacfaa05d0f2999b06dfdf385bc", func := "plugtree/pluglaw.BudgetPlans", spec := "budgetPlans", unfollowed := true, recurses := true, plainKeys := false, apart := false, narrowed := true }
def BudgetPlansUptoSaid : Prop := budgetPlansUptoRow.holds Try.pinned (OpenSpec.upto budgetPlansSpec)

/-- 'pluglaw.GadgetChecks', WHERE WHAT IT READS IS OF BULK AT MOST 1048576: true; the input reads as it did. -/
def gadgetChecksUptoRow : OpenClaim := { program := "ytmcjcioifgaihaa", sum := "915dbd42cb2211fc6040846835c3ae97e39e4cacfaa05d0f2999b06dfdf385bc", func := "plugtree/pluglaw.GadgetChecks", spec := "gadgetChecks", inPlace := ["internal/abi.NoEscape", "internal/bytealg.MakeNoZero"], unfollowed := true, recurses := true, plainKeys := false, apart := false, narrowed := true }
def GadgetChecksUptoSaid : Prop := gadgetChecksUptoRow.holds Try.pinned (OpenSpec.upto gadgetChecksSpec)

/-- 'pluglaw.DescReads', WHERE WHAT IT READS IS OF BULK AT MOST 1048576: true; the input reads as it did. -/
def descReadsUptoRow : OpenClaim := { program := "ytmcjcioifgaihaa", sum := "915dbd42cb2211fc6040846835c3ae97e39e4cacfaa05d0f2999b06dfdf385bc", func := "plugtree/pluglaw.DescReads", spec := "descReads", inPlace := ["internal/abi.NoEscape", "internal/bytealg.MakeNoZero"], unfollowed := true, recurses := true, plainKeys := false, apart := false, narrowed := true }
def DescReadsUptoSaid : Prop := descReadsUptoRow.holds Try.pinned (OpenSpec.upto descReadsSpec)

end Rows
end Go.Proofs.Ytmcjcioifgaihaa
