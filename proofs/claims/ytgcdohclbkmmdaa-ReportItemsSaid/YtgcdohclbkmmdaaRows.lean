/-
  No cell of these rows narrows 'for every input' (looked for: loops, veiled, ifaces, maps, wideKeys, modest, calm, conditions, laid).
  DERIVED. THE GIVEN ROWS OF THIS SEAT. 12 by the template 'for every input the law returns true; each argument reads behind the call as it read before'; 0 by the template 'total and deterministic' (their statements: YtgcdohclbkmmdaaTotals.lean).
  GIVEN WITH THE SEED: the statements are not yours to turn. If you find one false, say at which input.
  Laid BY PROGRAM, IN A SANDBOX (cutbox-rows.mjs): the forced cells as the released guide's own fill.sh prints them over the translation ddeb109510ca26db… (all of the seat's roots in one cut). By AI agents, Wed Nov 11 2026. No macro, syntax, notation, axiom, sorry.
-/
import Derived.Test.YtgcdohclbkmmdaaChecked
import GoSem.Claim
import GoSem.ClaimJoined
import GoSem.ClaimMapViews
import Derived.JoinedTies
import Derived.KernelRfl
namespace Go.Proofs.Ytgcdohclbkmmdaa
/- THE CELL 'sum', in the pinned program and in every row, IS THE sha256 OF THE DUMP (.gsa) THAT YtgcdohclbkmmdaaProg.lean LOADS. Nothing in Lean hashes anything: it is a label: what it is worth is what the hold of that sum in a sandbox is worth. -/
noncomputable def Try.pinned : Pinned := { name := "ytgcdohclbkmmdaa", sum := "ddeb109510ca26db8028b30de55d639bf3afc610e3331ce05a492614ee7daf0d", checked := Try.checked }
namespace Rows
def none {H : Type} : Left H := { results := [], args := [] }

/-- 'pluglaw.SlotsHalt': WHATEVER THE INPUT: true; the input reads as it did. -/
def slotsHaltSpec : ChangeSpec := { name := "slotsHalt", fn := fun _ => fun
  | [d1, d2, d3] => { results := [.lit (.bool true)], args := [d1, d2, d3] }
  | _ => none }
def slotsHaltRow : OpenClaim := { program := "ytgcdohclbkmmdaa", sum := "ddeb109510ca26db8028b30de55d639bf3afc610e3331ce05a492614ee7daf0d", func := "plugtree/pluglaw.SlotsHalt", spec := "slotsHalt", apart := false }
def SlotsHaltSaid : Prop := slotsHaltRow.holds Try.pinned (OpenSpec.ofChange slotsHaltSpec)

/-- ITS FALSE NEIGHBOUR: 'it returns false'. Refute it at one input. -/
def slotsHaltWrong : ChangeSpec := { name := "slotsHalt", fn := fun _ => fun
  | [d1, d2, d3] => { results := [.lit (.bool false)], args := [d1, d2, d3] }
  | _ => none }
def SlotsHaltWrongFalsely : Prop := slotsHaltRow.holds Try.pinned (OpenSpec.ofChange slotsHaltWrong)

/-- 'pluglaw.DescDevices': WHATEVER THE INPUT: true; the input reads as it did. -/
def descDevicesSpec : ChangeSpec := { name := "descDevices", fn := fun _ => fun
  | [d1, d2] => { results := [.lit (.bool true)], args := [d1, d2] }
  | _ => none }
def descDevicesRow : OpenClaim := { program := "ytgcdohclbkmmdaa", sum := "ddeb109510ca26db8028b30de55d639bf3afc610e3331ce05a492614ee7daf0d", func := "plugtree/pluglaw.DescDevices", spec := "descDevices", inPlace := ["internal/bytealg.IndexByteString"], unfollowed := true, recurses := true, apart := false }
def DescDevicesSaid : Prop := descDevicesRow.holds Try.pinned (OpenSpec.ofChange descDevicesSpec)

/-- ITS FALSE NEIGHBOUR: 'it returns false'. Refute it at one input. -/
def descDevicesWrong : ChangeSpec := { name := "descDevices", fn := fun _ => fun
  | [d1, d2] => { results := [.lit (.bool false)], args := [d1, d2] }
  | _ => none }
def DescDevicesWrongFalsely : Prop := descDevicesRow.holds Try.pinned (OpenSpec.ofChange descDevicesWrong)

/-- 'pluglaw.RouteMeets': WHATEVER THE INPUT: true; the input reads as it did. -/
def routeMeetsSpec : ChangeSpec := { name := "routeMeets", fn := fun _ => fun
  | [d1, d2] => { results := [.lit (.bool true)], args := [d1, d2] }
  | _ => none }
def routeMeetsRow : OpenClaim := { program := "ytgcdohclbkmmdaa", sum := "ddeb109510ca26db8028b30de55d639bf3afc610e3331ce05a492614ee7daf0d", func := "plugtree/pluglaw.RouteMeets", spec := "routeMeets", recurses := true, apart := false }
def RouteMeetsSaid : Prop := routeMeetsRow.holds Try.pinned (OpenSpec.ofChange routeMeetsSpec)

/-- ITS FALSE NEIGHBOUR: 'it returns false'. Refute it at one input. -/
def routeMeetsWrong : ChangeSpec := { name := "routeMeets", fn := fun _ => fun
  | [d1, d2] => { results := [.lit (.bool false)], args := [d1, d2] }
  | _ => none }
def RouteMeetsWrongFalsely : Prop := routeMeetsRow.holds Try.pinned (OpenSpec.ofChange routeMeetsWrong)

/-- 'pluglaw.SetupWrites': WHATEVER THE INPUT: true; the input reads as it did. -/
def setupWritesSpec : ChangeSpec := { name := "setupWrites", fn := fun _ => fun
  | [d] => { results := [.lit (.bool true)], args := [d] }
  | _ => none }
def setupWritesRow : OpenClaim := { program := "ytgcdohclbkmmdaa", sum := "ddeb109510ca26db8028b30de55d639bf3afc610e3331ce05a492614ee7daf0d", func := "plugtree/pluglaw.SetupWrites", spec := "setupWrites", unfollowed := true, recurses := true, apart := false }
def SetupWritesSaid : Prop := setupWritesRow.holds Try.pinned (OpenSpec.ofChange setupWritesSpec)

/-- ITS FALSE NEIGHBOUR: 'it returns false'. Refute it at one input. -/
def setupWritesWrong : ChangeSpec := { name := "setupWrites", fn := fun _ => fun
  | [d] => { results := [.lit (.bool false)], args := [d] }
  | _ => none }
def SetupWritesWrongFalsely : Prop := setupWritesRow.holds Try.pinned (OpenSpec.ofChange setupWritesWrong)

/-- 'pluglaw.RoutePacks': WHATEVER THE INPUT: true; the input reads as it did. -/
def routePacksSpec : ChangeSpec := { name := "routePacks", fn := fun _ => fun
  | [d1, d2] => { results := [.lit (.bool true)], args := [d1, d2] }
  | _ => none }
def routePacksRow : OpenClaim := { program := "ytgcdohclbkmmdaa", sum := "ddeb109510ca26db8028b30de55d639bf3afc610e3331ce05a492614ee7daf0d", func := "plugtree/pluglaw.RoutePacks", spec := "routePacks", apart := false }
def RoutePacksSaid : Prop := routePacksRow.holds Try.pinned (OpenSpec.ofChange routePacksSpec)

/-- ITS FALSE NEIGHBOUR: 'it returns false'. Refute it at one input. -/
def routePacksWrong : ChangeSpec := { name := "routePacks", fn := fun _ => fun
  | [d1, d2] => { results := [.lit (.bool false)], args := [d1, d2] }
  | _ => none }
def RoutePacksWrongFalsely : Prop := routePacksRow.holds Try.pinned (OpenSpec.ofChange routePacksWrong)

/-- 'pluglaw.BudgetLoads': WHATEVER THE INPUT: true; the input reads as it did. -/
def budgetLoadsSpec : ChangeSpec := { name := "budgetLoads", fn := fun _ => fun
  | [d1, d2, d3, d4] => { results := [.lit (.bool true)], args := [d1, d2, d3, d4] }
  | _ => none }
def budgetLoadsRow : OpenClaim := { program := "ytgcdohclbkmmdaa", sum := "ddeb109510ca26db8028b30de55d639bf3afc610e3331ce05a492614ee7daf0d", func := "plugtree/pluglaw.BudgetLoads", spec := "budgetLoads", apart := false }
def BudgetLoadsSaid : Prop := budgetLoadsRow.holds Try.pinned (OpenSpec.ofChange budgetLoadsSpec)

/-- ITS FALSE NEIGHBOUR: 'it returns false'. Refute it at one input. -/
def budgetLoadsWrong : ChangeSpec := { name := "budgetLoads", fn := fun _ => fun
  | [d1, d2, d3, d4] => { results := [.lit (.bool false)], args := [d1, d2, d3, d4] }
  | _ => none }
def BudgetLoadsWrongFalsely : Prop := budgetLoadsRow.holds Try.pinned (OpenSpec.ofChange budgetLoadsWrong)

/-- 'pluglaw.ReportItems': WHATEVER THE INPUT: true; the input reads as it did. -/
def reportItemsSpec : ChangeSpec := { name := "reportItems", fn := fun _ => fun
  | [d1, d2] => { results := [.lit (.bool true)], args := [d1, d2] }
  | _ => none }
def reportItemsRow : OpenClaim := { program := "ytgcdohclbkmmdaa", sum := "ddeb109510ca26db8028b30de55d639bf3afc610e3331ce05a492614ee7daf0d", func := "plugtree/pluglaw.ReportItems", spec := "reportItems", apart := false }
def ReportItemsSaid : Prop := reportItemsRow.holds Try.pinned (OpenSpec.ofChange reportItemsSpec)

/-- ITS FALSE NEIGHBOUR: 'it returns false'. Refute it at one input. -/
def reportItemsWrong : ChangeSpec := { name := "reportItems", fn := fun _ => fun
  | [d1, d2] => { results := [.lit (.bool false)], args := [d1, d2] }
  | _ => none }
def ReportItemsWrongFalsely : Prop := reportItemsRow.holds Try.pinned (OpenSpec.ofChange reportItemsWrong)

/-- 'pluglaw.KeysDiffs': WHATEVER THE INPUT: true; the input reads as it did. -/
def keysDiffsSpec : ChangeSpec := { name := "keysDiffs", fn := fun _ => fun
  | [d1, d2, d3] => { results := [.lit (.bool true)], args := [d1, d2, d3] }
  | _ => none }
def keysDiffsRow : OpenClaim := { program := "ytgcdohclbkmmdaa", sum := "ddeb109510ca26db8028b30de55d639bf3afc610e3331ce05a492614ee7daf0d", func := "plugtree/pluglaw.KeysDiffs", spec := "keysDiffs", unfollowed := true, recurses := true, apart := false }
def KeysDiffsSaid : Prop := keysDiffsRow.holds Try.pinned (OpenSpec.ofChange keysDiffsSpec)

/-- ITS FALSE NEIGHBOUR: 'it returns false'. Refute it at one input. -/
def keysDiffsWrong : ChangeSpec := { name := "keysDiffs", fn := fun _ => fun
  | [d1, d2, d3] => { results := [.lit (.bool false)], args := [d1, d2, d3] }
  | _ => none }
def KeysDiffsWrongFalsely : Prop := keysDiffsRow.holds Try.pinned (OpenSpec.ofChange keysDiffsWrong)

/-- 'pluglaw.KeysReads': WHATEVER THE INPUT: true; the input reads as it did. -/
def keysReadsSpec : ChangeSpec := { name := "keysReads", fn := fun _ => fun
  | [d1, d2] => { results := [.lit (.bool true)], args := [d1, d2] }
  | _ => none }
def keysReadsRow : OpenClaim := { program := "ytgcdohclbkmmdaa", sum := "ddeb109510ca26db8028b30de55d639bf3afc610e3331ce05a492614ee7daf0d", func := "plugtree/pluglaw.KeysReads", spec := "keysReads", inPlace := ["internal/bytealg.IndexByteString"], unfollowed := true, recurses := true, apart := false }
def KeysReadsSaid : Prop := keysReadsRow.holds Try.pinned (OpenSpec.ofChange keysReadsSpec)

/-- ITS FALSE NEIGHBOUR: 'it returns false'. Refute it at one input. -/
def keysReadsWrong : ChangeSpec := { name := "keysReads", fn := fun _ => fun
  | [d1, d2] => { results := [.lit (.bool false)], args := [d1, d2] }
  | _ => none }
def KeysReadsWrongFalsely : Prop := keysReadsRow.holds Try.pinned (OpenSpec.ofChange keysReadsWrong)

/-- 'pluglaw.SetupReads': WHATEVER THE INPUT: true; the input reads as it did. -/
def setupReadsSpec : ChangeSpec := { name := "setupReads", fn := fun _ => fun
  | [d] => { results := [.lit (.bool true)], args := [d] }
  | _ => none }
def setupReadsRow : OpenClaim := { program := "ytgcdohclbkmmdaa", sum := "ddeb109510ca26db8028b30de55d639bf3afc610e3331ce05a492614ee7daf0d", func := "plugtree/pluglaw.SetupReads", spec := "setupReads", unfollowed := true, recurses := true, apart := false }
def SetupReadsSaid : Prop := setupReadsRow.holds Try.pinned (OpenSpec.ofChange setupReadsSpec)

/-- ITS FALSE NEIGHBOUR: 'it returns false'. Refute it at one input. -/
def setupReadsWrong : ChangeSpec := { name := "setupReads", fn := fun _ => fun
  | [d] => { results := [.lit (.bool false)], args := [d] }
  | _ => none }
def SetupReadsWrongFalsely : Prop := setupReadsRow.holds Try.pinned (OpenSpec.ofChange setupReadsWrong)

/-- 'pluglaw.ReportFields': WHATEVER THE INPUT: true; the input reads as it did. -/
def reportFieldsSpec : ChangeSpec := { name := "reportFields", fn := fun _ => fun
  | [d] => { results := [.lit (.bool true)], args := [d] }
  | _ => none }
def reportFieldsRow : OpenClaim := { program := "ytgcdohclbkmmdaa", sum := "ddeb109510ca26db8028b30de55d639bf3afc610e3331ce05a492614ee7daf0d", func := "plugtree/pluglaw.ReportFields", spec := "reportFields", unfollowed := true, recurses := true, apart := false }
def ReportFieldsSaid : Prop := reportFieldsRow.holds Try.pinned (OpenSpec.ofChange reportFieldsSpec)

/-- ITS FALSE NEIGHBOUR: 'it returns false'. Refute it at one input. -/
def reportFieldsWrong : ChangeSpec := { name := "reportFields", fn := fun _ => fun
  | [d] => { results := [.lit (.bool false)], args := [d] }
  | _ => none }
def ReportFieldsWrongFalsely : Prop := reportFieldsRow.holds Try.pinned (OpenSpec.ofChange reportFieldsWrong)

/-- 'pluglaw.StrikeSplits': WHATEVER THE INPUT: true; the input reads as it did. -/
def strikeSplitsSpec : ChangeSpec := { name := "strikeSplits", fn := fun _ => fun
  | [d1, d2, d3] => { results := [.lit (.bool true)], args := [d1, d2, d3] }
  | _ => none }
def strikeSplitsRow : OpenClaim := { program := "ytgcdohclbkmmdaa", sum := "ddeb109510ca26db8028b30de55d639bf3afc610e3331ce05a492614ee7daf0d", func := "plugtree/pluglaw.StrikeSplits", spec := "strikeSplits", inPlace := ["internal/abi.NoEscape", "internal/bytealg.MakeNoZero"], apart := false }
def StrikeSplitsSaid : Prop := strikeSplitsRow.holds Try.pinned (OpenSpec.ofChange strikeSplitsSpec)

/-- ITS FALSE NEIGHBOUR: 'it returns false'. Refute it at one input. -/
def strikeSplitsWrong : ChangeSpec := { name := "strikeSplits", fn := fun _ => fun
  | [d1, d2, d3] => { results := [.lit (.bool false)], args := [d1, d2, d3] }
  | _ => none }
def StrikeSplitsWrongFalsely : Prop := strikeSplitsRow.holds Try.pinned (OpenSpec.ofChange strikeSplitsWrong)

/- THE SECOND FORM. 'bulk': how many values and letters a reading holds, each counted each time it is reached (what is shared counts as often as it is met; a slice's spare places count too). A statement '..UptoSaid' is the law's where the arguments, and the package variables that the reading takes, are together of bulk at most 1048576: NARROWER than '..Said'. Prove '..Said' where nothing that the law and all that it calls make is longer than what came in: it says more and counts as full. Else prove '..UptoSaid'. A law counts once. -/
mutual
def uptoBulk {H : Type} : DataW H → Nat
  | .lit (.string bytes) => bytes.length + 1
  | .lit _ => 1
  | .nil => 1
  | .ptr d => uptoBulk d + 1
  | .slice elems spare => uptoBulkAll elems + uptoBulkAll spare + 1
  | .agg parts => uptoBulkAll parts + 1
  | .iface _ d => uptoBulk d + 1
  | .map entries => uptoBulkEntries entries + 1
  | .held _ => 1
def uptoBulkAll {H : Type} : List (DataW H) → Nat
  | [] => 0
  | d :: r => uptoBulk d + uptoBulkAll r
def uptoBulkEntries {H : Type} : List (Lit × DataW H) → Nat
  | [] => 0
  | x :: r => uptoBulkEntry x + uptoBulkEntries r
def uptoBulkEntry {H : Type} : Lit × DataW H → Nat
  | (.string bytes, d) => bytes.length + uptoBulk d + 1
  | (_, d) => uptoBulk d + 1
 end
def uptoSmall : (H : Type) → List (DataW H) → Bool := fun _ ds => decide (uptoBulkAll ds ≤ 1048576)
def OpenSpec.upto (s : _root_.Go.ChangeSpec) : _root_.Go.OpenSpec := { _root_.Go.OpenSpec.ofChange s with cond := some uptoSmall }

/-- 'pluglaw.SlotsHalt', WHERE WHAT IT READS IS OF BULK AT MOST 1048576: true; the input reads as it did. -/
def slotsHaltUptoRow : OpenClaim := { program := "ytgcdohclbkmmdaa", sum := "ddeb109510ca26db8028b30de55d639bf3afc610e3331ce05a492614ee7daf0d", func := "plugtree/pluglaw.SlotsHalt", spec := "slotsHalt", apart := false, narrowed := true }
def SlotsHaltUptoSaid : Prop := slotsHaltUptoRow.holds Try.pinned (OpenSpec.upto slotsHaltSpec)

/-- 'pluglaw.DescDevices', WHERE WHAT IT READS IS OF BULK AT MOST 1048576: true; the input reads as it did. -/
def descDevicesUptoRow : OpenClaim := { program := "ytgcdohclbkmmdaa", sum := "ddeb109510ca26db8028b30de55d639bf3afc610e3331ce05a492614ee7daf0d", func := "plugtree/pluglaw.DescDevices", spec := "descDevices", inPlace := ["internal/bytealg.IndexByteString"], unfollowed := true, recurses := true, apart := false, narrowed := true }
def DescDevicesUptoSaid : Prop := descDevicesUptoRow.holds Try.pinned (OpenSpec.upto descDevicesSpec)

/-- 'pluglaw.RouteMeets', WHERE WHAT IT READS IS OF BULK AT MOST 1048576: true; the input reads as it did. -/
def routeMeetsUptoRow : OpenClaim := { program := "ytgcdohclbkmmdaa", sum := "ddeb109510ca26db8028b30de55d639bf3afc610e3331ce05a492614ee7daf0d", func := "plugtree/pluglaw.RouteMeets", spec := "routeMeets", recurses := true, apart := false, narrowed := true }
def RouteMeetsUptoSaid : Prop := routeMeetsUptoRow.holds Try.pinned (OpenSpec.upto routeMeetsSpec)

/-- 'pluglaw.SetupWrites', WHERE WHAT IT READS IS OF BULK AT MOST 1048576: true; the input reads as it did. -/
def setupWritesUptoRow : OpenClaim := { program := "ytgcdohclbkmmdaa", sum := "ddeb109510ca26db8028b30de55d639bf3afc610e3331ce05a492614ee7daf0d", func := "plugtree/pluglaw.SetupWrites", spec := "setupWrites", unfollowed := true, recurses := true, apart := false, narrowed := true }
def SetupWritesUptoSaid : Prop := setupWritesUptoRow.holds Try.pinned (OpenSpec.upto setupWritesSpec)

/-- 'pluglaw.RoutePacks', WHERE WHAT IT READS IS OF BULK AT MOST 1048576: true; the input reads as it did. -/
def routePacksUptoRow : OpenClaim := { program := "ytgcdohclbkmmdaa", sum := "ddeb109510ca26db8028b30de55d639bf3afc610e3331ce05a492614ee7daf0d", func := "plugtree/pluglaw.RoutePacks", spec := "routePacks", apart := false, narrowed := true }
def RoutePacksUptoSaid : Prop := routePacksUptoRow.holds Try.pinned (OpenSpec.upto routePacksSpec)

/-- 'pluglaw.BudgetLoads', WHERE WHAT IT READS IS OF BULK AT MOST 1048576: true; the input reads as it did. -/
def budgetLoadsUptoRow : OpenClaim := { program := "ytgcdohclbkmmdaa", sum := "ddeb109510ca26db8028b30de55d639bf3afc610e3331ce05a492614ee7daf0d", func := "plugtree/pluglaw.BudgetLoads", spec := "budgetLoads", apart := false, narrowed := true }
def BudgetLoadsUptoSaid : Prop := budgetLoadsUptoRow.holds Try.pinned (OpenSpec.upto budgetLoadsSpec)

/-- 'pluglaw.ReportItems', WHERE WHAT IT READS IS OF BULK AT MOST 1048576: true; the input reads as it did. -/
def reportItemsUptoRow : OpenClaim := { program := "ytgcdohclbkmmdaa", sum := "ddeb109510ca26db8028b30de55d639bf3afc610e3331ce05a492614ee7daf0d", func := "plugtree/pluglaw.ReportItems", spec := "reportItems", apart := false, narrowed := true }
def ReportItemsUptoSaid : Prop := reportItemsUptoRow.holds Try.pinned (OpenSpec.upto reportItemsSpec)

/-- 'pluglaw.KeysDiffs', WHERE WHAT IT READS IS OF BULK AT MOST 1048576: true; the input reads as it did. -/
def keysDiffsUptoRow : OpenClaim := { program := "ytgcdohclbkmmdaa", sum := "ddeb109510ca26db8028b30de55d639bf3afc610e3331ce05a492614ee7daf0d", func := "plugtree/pluglaw.KeysDiffs", spec := "keysDiffs", unfollowed := true, recurses := true, apart := false, narrowed := true }
def KeysDiffsUptoSaid : Prop := keysDiffsUptoRow.holds Try.pinned (OpenSpec.upto keysDiffsSpec)

/-- 'pluglaw.KeysReads', WHERE WHAT IT READS IS OF BULK AT MOST 1048576: true; the input reads as it did. -/
def keysReadsUptoRow : OpenClaim := { program := "ytgcdohclbkmmdaa", sum := "ddeb109510ca26db8028b30de55d639bf3afc610e3331ce05a492614ee7daf0d", func := "plugtree/pluglaw.KeysReads", spec := "keysReads", inPlace := ["internal/bytealg.IndexByteString"], unfollowed := true, recurses := true, apart := false, narrowed := true }
def KeysReadsUptoSaid : Prop := keysReadsUptoRow.holds Try.pinned (OpenSpec.upto keysReadsSpec)

/-- 'pluglaw.SetupReads', WHERE WHAT IT READS IS OF BULK AT MOST 1048576: true; the input reads as it did. -/
def setupReadsUptoRow : OpenClaim := { program := "ytgcdohclbkmmdaa", sum := "ddeb109510ca26db8028b30de55d639bf3afc610e3331ce05a492614ee7daf0d", func := "plugtree/pluglaw.SetupReads", spec := "setupReads", unfollowed := true, recurses := true, apart := false, narrowed := true }
def SetupReadsUptoSaid : Prop := setupReadsUptoRow.holds Try.pinned (OpenSpec.upto setupReadsSpec)

/-- 'pluglaw.ReportFields', WHERE WHAT IT READS IS OF BULK AT MOST 1048576: true; the input reads as it did. -/
def reportFieldsUptoRow : OpenClaim := { program := "ytgcdohclbkmmdaa", sum := "ddeb109510ca26db8028b30de55d639bf3afc610e3331ce05a492614ee7daf0d", func := "plugtree/pluglaw.ReportFields", spec := "reportFields", unfollowed := true, recurses := true, apart := false, narrowed := true }
def ReportFieldsUptoSaid : Prop := reportFieldsUptoRow.holds Try.pinned (OpenSpec.upto reportFieldsSpec)

/-- 'pluglaw.StrikeSplits', WHERE WHAT IT READS IS OF BULK AT MOST 1048576: true; the input reads as it did. -/
def strikeSplitsUptoRow : OpenClaim := { program := "ytgcdohclbkmmdaa", sum := "ddeb109510ca26db8028b30de55d639bf3afc610e3331ce05a492614ee7daf0d", func := "plugtree/pluglaw.StrikeSplits", spec := "strikeSplits", inPlace := ["internal/abi.NoEscape", "internal/bytealg.MakeNoZero"], apart := false, narrowed := true }
def StrikeSplitsUptoSaid : Prop := strikeSplitsUptoRow.holds Try.pinned (OpenSpec.upto strikeSplitsSpec)

end Rows
end Go.Proofs.Ytgcdohclbkmmdaa
