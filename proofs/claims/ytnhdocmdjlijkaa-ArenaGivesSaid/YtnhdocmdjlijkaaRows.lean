/-
  No cell of these rows narrows 'for every input' (looked for: loops, veiled, ifaces, maps, wideKeys, modest, calm, conditions, laid).
  DERIVED. THE GIVEN ROWS OF THIS SEAT. 9 by the template 'for every input the law returns true; each argument reads behind the call as it read before'; 0 by the template 'total and deterministic' (their statements: YtnhdocmdjlijkaaTotals.lean).
  GIVEN WITH THE SEED: the statements are not yours to turn. If you find one false, say at which input.
  Laid BY PROGRAM, IN A SANDBOX (cutbox-rows.mjs): the forced cells as the released guide's own fill.sh prints them over the translation 0bca478736114df4… (all of the seat's roots in one cut). By AI agents, Wed Nov 11 2026. No macro, syntax, notation, axiom, sorry.
-/
import Derived.Test.YtnhdocmdjlijkaaChecked
import GoSem.Claim
import GoSem.ClaimJoined
import GoSem.ClaimMapViews
import Derived.JoinedTies
import Derived.KernelRfl
namespace Go.Proofs.Ytnhdocmdjlijkaa
/- THE CELL 'sum', in the pinned program and in every row, IS THE sha256 OF THE DUMP (.gsa) THAT YtnhdocmdjlijkaaProg.lean LOADS. Nothing in Lean hashes anything: it is a label: what it is worth is what the hold of that sum in a sandbox is worth. -/
noncomputable def Try.pinned : Pinned := { name := "ytnhdocmdjlijkaa", sum := "0bca478736114df461ec345c02db5aa634f0f0a0139a0ae44c0cd29572ee27d4", checked := Try.checked }
namespace Rows
def none {H : Type} : Left H := { results := [], args := [] }

/-- 'pluglaw.KeysReads': WHATEVER THE INPUT: true; the input reads as it did. -/
def keysReadsSpec : ChangeSpec := { name := "keysReads", fn := fun _ => fun
  | [d1, d2] => { results := [.lit (.bool true)], args := [d1, d2] }
  | _ => none }
def keysReadsRow : OpenClaim := { program := "ytnhdocmdjlijkaa", sum := "0bca478736114df461ec345c02db5aa634f0f0a0139a0ae44c0cd29572ee27d4", func := "plugtree/pluglaw.KeysReads", spec := "keysReads", inPlace := ["internal/bytealg.IndexByteString"], unfollowed := true, recurses := true, plainKeys := false, apart := false }
def KeysReadsSaid : Prop := keysReadsRow.holds Try.pinned (OpenSpec.ofChange keysReadsSpec)

/-- ITS FALSE NEIGHBOUR: 'it returns false'. Refute it at one input. -/
def keysReadsWrong : ChangeSpec := { name := "keysReads", fn := fun _ => fun
  | [d1, d2] => { results := [.lit (.bool false)], args := [d1, d2] }
  | _ => none }
def KeysReadsWrongFalsely : Prop := keysReadsRow.holds Try.pinned (OpenSpec.ofChange keysReadsWrong)

/-- 'pluglaw.KeysDiffs': WHATEVER THE INPUT: true; the input reads as it did. -/
def keysDiffsSpec : ChangeSpec := { name := "keysDiffs", fn := fun _ => fun
  | [d1, d2, d3] => { results := [.lit (.bool true)], args := [d1, d2, d3] }
  | _ => none }
def keysDiffsRow : OpenClaim := { program := "ytnhdocmdjlijkaa", sum := "0bca478736114df461ec345c02db5aa634f0f0a0139a0ae44c0cd29572ee27d4", func := "plugtree/pluglaw.KeysDiffs", spec := "keysDiffs", unfollowed := true, recurses := true, plainKeys := false, apart := false }
def KeysDiffsSaid : Prop := keysDiffsRow.holds Try.pinned (OpenSpec.ofChange keysDiffsSpec)

/-- ITS FALSE NEIGHBOUR: 'it returns false'. Refute it at one input. -/
def keysDiffsWrong : ChangeSpec := { name := "keysDiffs", fn := fun _ => fun
  | [d1, d2, d3] => { results := [.lit (.bool false)], args := [d1, d2, d3] }
  | _ => none }
def KeysDiffsWrongFalsely : Prop := keysDiffsRow.holds Try.pinned (OpenSpec.ofChange keysDiffsWrong)

/-- 'pluglaw.KeysFeeds': WHATEVER THE INPUT: true; the input reads as it did. -/
def keysFeedsSpec : ChangeSpec := { name := "keysFeeds", fn := fun _ => fun
  | [d1, d2] => { results := [.lit (.bool true)], args := [d1, d2] }
  | _ => none }
def keysFeedsRow : OpenClaim := { program := "ytnhdocmdjlijkaa", sum := "0bca478736114df461ec345c02db5aa634f0f0a0139a0ae44c0cd29572ee27d4", func := "plugtree/pluglaw.KeysFeeds", spec := "keysFeeds", inPlace := ["internal/bytealg.IndexByteString"], unfollowed := true, recurses := true, plainKeys := false, apart := false }
def KeysFeedsSaid : Prop := keysFeedsRow.holds Try.pinned (OpenSpec.ofChange keysFeedsSpec)

/-- ITS FALSE NEIGHBOUR: 'it returns false'. Refute it at one input. -/
def keysFeedsWrong : ChangeSpec := { name := "keysFeeds", fn := fun _ => fun
  | [d1, d2] => { results := [.lit (.bool false)], args := [d1, d2] }
  | _ => none }
def KeysFeedsWrongFalsely : Prop := keysFeedsRow.holds Try.pinned (OpenSpec.ofChange keysFeedsWrong)

/-- 'pluglaw.ArenaGives': WHATEVER THE INPUT: true; the input reads as it did. -/
def arenaGivesSpec : ChangeSpec := { name := "arenaGives", fn := fun _ => fun
  | [d1, d2] => { results := [.lit (.bool true)], args := [d1, d2] }
  | _ => none }
def arenaGivesRow : OpenClaim := { program := "ytnhdocmdjlijkaa", sum := "0bca478736114df461ec345c02db5aa634f0f0a0139a0ae44c0cd29572ee27d4", func := "plugtree/pluglaw.ArenaGives", spec := "arenaGives", unfollowed := true, recurses := true, plainKeys := false, apart := false }
def ArenaGivesSaid : Prop := arenaGivesRow.holds Try.pinned (OpenSpec.ofChange arenaGivesSpec)

/-- ITS FALSE NEIGHBOUR: 'it returns false'. Refute it at one input. -/
def arenaGivesWrong : ChangeSpec := { name := "arenaGives", fn := fun _ => fun
  | [d1, d2] => { results := [.lit (.bool false)], args := [d1, d2] }
  | _ => none }
def ArenaGivesWrongFalsely : Prop := arenaGivesRow.holds Try.pinned (OpenSpec.ofChange arenaGivesWrong)

/-- 'pluglaw.ArenaTakes': WHATEVER THE INPUT: true; the input reads as it did. -/
def arenaTakesSpec : ChangeSpec := { name := "arenaTakes", fn := fun _ => fun
  | [d1, d2, d3] => { results := [.lit (.bool true)], args := [d1, d2, d3] }
  | _ => none }
def arenaTakesRow : OpenClaim := { program := "ytnhdocmdjlijkaa", sum := "0bca478736114df461ec345c02db5aa634f0f0a0139a0ae44c0cd29572ee27d4", func := "plugtree/pluglaw.ArenaTakes", spec := "arenaTakes", inPlace := ["slices.overlaps[plugtree/api.Span]"], unfollowed := true, recurses := true, plainKeys := false, apart := false }
def ArenaTakesSaid : Prop := arenaTakesRow.holds Try.pinned (OpenSpec.ofChange arenaTakesSpec)

/-- ITS FALSE NEIGHBOUR: 'it returns false'. Refute it at one input. -/
def arenaTakesWrong : ChangeSpec := { name := "arenaTakes", fn := fun _ => fun
  | [d1, d2, d3] => { results := [.lit (.bool false)], args := [d1, d2, d3] }
  | _ => none }
def ArenaTakesWrongFalsely : Prop := arenaTakesRow.holds Try.pinned (OpenSpec.ofChange arenaTakesWrong)

/-- 'pluglaw.BudgetPlans': WHATEVER THE INPUT: true; the input reads as it did. -/
def budgetPlansSpec : ChangeSpec := { name := "budgetPlans", fn := fun _ => fun
  | [d1, d2] => { results := [.lit (.bool true)], args := [d1, d2] }
  | _ => none }
def budgetPlansRow : OpenClaim := { program := "ytnhdocmdjlijkaa", sum := "0bca478736114df461ec345c02db5aa634f0f0a0139a0ae44c0cd29572ee27d4", func := "plugtree/pluglaw.BudgetPlans", spec := "budgetPlans", unfollowed := true, recurses := true, plainKeys := false, apart := false }
def BudgetPlansSaid : Prop := budgetPlansRow.holds Try.pinned (OpenSpec.ofChange budgetPlansSpec)

/-- ITS FALSE NEIGHBOUR: 'it returns false'. Refute it at one input. -/
def budgetPlansWrong : ChangeSpec := { name := "budgetPlans", fn := fun _ => fun
  | [d1, d2] => { results := [.lit (.bool false)], args := [d1, d2] }
  | _ => none }
def BudgetPlansWrongFalsely : Prop := budgetPlansRow.holds Try.pinned (OpenSpec.ofChange budgetPlansWrong)

/-- 'pluglaw.HostPlays': WHATEVER THE INPUT: true; the input reads as it did. -/
def hostPlaysSpec : ChangeSpec := { name := "hostPlays", fn := fun _ => fun
  | [d1, d2, d3] => { results := [.lit (.bool true)], args := [d1, d2, d3] }
  | _ => none }
def hostPlaysRow : OpenClaim := { program := "ytnhdocmdjlijkaa", sum := "0bca478736114df461ec345c02db5aa634f0f0a0139a0ae44c0cd29572ee27d4", func := "plugtree/pluglaw.HostPlays", spec := "hostPlays", unfollowed := true, recurses := true, plainKeys := false, apart := false }
def HostPlaysSaid : Prop := hostPlaysRow.holds Try.pinned (OpenSpec.ofChange hostPlaysSpec)

/-- ITS FALSE NEIGHBOUR: 'it returns false'. Refute it at one input. -/
def hostPlaysWrong : ChangeSpec := { name := "hostPlays", fn := fun _ => fun
  | [d1, d2, d3] => { results := [.lit (.bool false)], args := [d1, d2, d3] }
  | _ => none }
def HostPlaysWrongFalsely : Prop := hostPlaysRow.holds Try.pinned (OpenSpec.ofChange hostPlaysWrong)

/-- 'pluglaw.TopoPlugs': WHATEVER THE INPUT: true; the input reads as it did. -/
def topoPlugsSpec : ChangeSpec := { name := "topoPlugs", fn := fun _ => fun
  | [d1, d2] => { results := [.lit (.bool true)], args := [d1, d2] }
  | _ => none }
def topoPlugsRow : OpenClaim := { program := "ytnhdocmdjlijkaa", sum := "0bca478736114df461ec345c02db5aa634f0f0a0139a0ae44c0cd29572ee27d4", func := "plugtree/pluglaw.TopoPlugs", spec := "topoPlugs", inPlace := ["slices.overlaps[plugtree/api.Node]"], unfollowed := true, recurses := true, plainKeys := false, apart := false }
def TopoPlugsSaid : Prop := topoPlugsRow.holds Try.pinned (OpenSpec.ofChange topoPlugsSpec)

/-- ITS FALSE NEIGHBOUR: 'it returns false'. Refute it at one input. -/
def topoPlugsWrong : ChangeSpec := { name := "topoPlugs", fn := fun _ => fun
  | [d1, d2] => { results := [.lit (.bool false)], args := [d1, d2] }
  | _ => none }
def TopoPlugsWrongFalsely : Prop := topoPlugsRow.holds Try.pinned (OpenSpec.ofChange topoPlugsWrong)

/-- 'pluglaw.DescReads': WHATEVER THE INPUT: true; the input reads as it did. -/
def descReadsSpec : ChangeSpec := { name := "descReads", fn := fun _ => fun
  | [d] => { results := [.lit (.bool true)], args := [d] }
  | _ => none }
def descReadsRow : OpenClaim := { program := "ytnhdocmdjlijkaa", sum := "0bca478736114df461ec345c02db5aa634f0f0a0139a0ae44c0cd29572ee27d4", func := "plugtree/pluglaw.DescReads", spec := "descReads", inPlace := ["internal/abi.NoEscape", "internal/bytealg.MakeNoZero"], unfollowed := true, recurses := true, plainKeys := false, apart := false }
def DescReadsSaid : Prop := descReadsRow.holds Try.pinned (OpenSpec.ofChange descReadsSpec)

/-- ITS FALSE NEIGHBOUR: 'it returns false'. Refute it at one input. -/
def descReadsWrong : ChangeSpec := { name := "descReads", fn := fun _ => fun
  | [d] => { results := [.lit (.bool false)], args := [d] }
  | _ => none }
def DescReadsWrongFalsely : Prop := descReadsRow.holds Try.pinned (OpenSpec.ofChange descReadsWrong)

/- THE SECOND FORM. 'bulk': how many values and letters a reading holds, each counted each time it is reached (what is shared counts as often as it is met; a slice's spare places count too). A statement '..UptoSaid' is the law's where the arguments, and the package variables that the reading takes, are together of bulk at most 1048576: NARROWER than '..Said'. Prove '..Said' where nothing that the law and all that it calls make is longer than what came in: it says more and counts as full. Else prove '..UptoSaid'. A law counts once. -/
mutual
def uptoBulk {H : Type} : DataW H → Nat
  | .lit (.string bytes) => bytes.length + 1
  | .lit _ => 1
  | .nil => 1
  | .ptr d => uptoBulk d + 1
  | .slice elems spare => uptoBulkAll elems + uptoBulkAll spare + 1
  | .agg parts => uptoBulkAll parts + 1
  | .iface _ d => uptoBulk d + 1
  | .map entries => uptoBulkEntries entries + 1
  | .held _ => 1
def uptoBulkAll {H : Type} : List (DataW H) → Nat
  | [] => 0
  | d :: r => uptoBulk d + uptoBulkAll r
def uptoBulkEntries {H : Type} : List (Lit × DataW H) → Nat
  | [] => 0
  | x :: r => uptoBulkEntry x + uptoBulkEntries r
def uptoBulkEntry {H : Type} : Lit × DataW H → Nat
  | (.string bytes, d) => bytes.length + uptoBulk d + 1
  | (_, d) => uptoBulk d + 1
 end
def uptoSmall : (H : Type) → List (DataW H) → Bool := fun _ ds => decide (uptoBulkAll ds ≤ 1048576)
def OpenSpec.upto (s : _root_.Go.ChangeSpec) : _root_.Go.OpenSpec := { _root_.Go.OpenSpec.ofChange s with cond := some uptoSmall }

/-- 'pluglaw.KeysReads', WHERE WHAT IT READS IS OF BULK AT MOST 1048576: true; the input reads as it did. -/
def keysReadsUptoRow : OpenClaim := { program := "ytnhdocmdjlijkaa", sum := "0bca478736114df461ec345c02db5aa634f0f0a0139a0ae44c0cd29572ee27d4", func := "plugtree/pluglaw.KeysReads", spec := "keysReads", inPlace := ["internal/bytealg.IndexByteString"], unfollowed := true, recurses := true, plainKeys := false, apart := false, narrowed := true }
def KeysReadsUptoSaid : Prop := keysReadsUptoRow.holds Try.pinned (OpenSpec.upto keysReadsSpec)

/-- 'pluglaw.KeysDiffs', WHERE WHAT IT READS IS OF BULK AT MOST 1048576: true; the input reads as it did. -/
def keysDiffsUptoRow : OpenClaim := { program := "ytnhdocmdjlijkaa", sum := "0bca478736114df461ec345c02db5aa634f0f0a0139a0ae44c0cd29572ee27d4", func := "plugtree/pluglaw.KeysDiffs", spec := "keysDiffs", unfollowed := true, recurses := true, plainKeys := false, apart := false, narrowed := true }
def KeysDiffsUptoSaid : Prop := keysDiffsUptoRow.holds Try.pinned (OpenSpec.upto keysDiffsSpec)

/-- 'pluglaw.KeysFeeds', WHERE WHAT IT READS IS OF BULK AT MOST 1048576: true; the input reads as it did. -/
def keysFeedsUptoRow : OpenClaim := { program := "ytnhdocmdjlijkaa", sum := "0bca478736114df461ec345c02db5aa634f0f0a0139a0ae44c0cd29572ee27d4", func := "plugtree/pluglaw.KeysFeeds", spec := "keysFeeds", inPlace := ["internal/bytealg.IndexByteString"], unfollowed := true, recurses := true, plainKeys := false, apart := false, narrowed := true }
def KeysFeedsUptoSaid : Prop := keysFeedsUptoRow.holds Try.pinned (OpenSpec.upto keysFeedsSpec)

/-- 'pluglaw.ArenaGives', WHERE WHAT IT READS IS OF BULK AT MOST 1048576: true; the input reads as it did. -/
def arenaGivesUptoRow : OpenClaim := { program := "ytnhdocmdjlijkaa", sum := "0bca478736114df461ec345c02db5aa634f0f0a0139a0ae44c0cd29572ee27d4", func := "plugtree/pluglaw.ArenaGives", spec := "arenaGives", unfollowed := true, recurses := true, plainKeys := false, apart := false, narrowed := true }
def ArenaGivesUptoSaid : Prop := arenaGivesUptoRow.holds Try.pinned (OpenSpec.upto arenaGivesSpec)

/-- 'pluglaw.ArenaTakes', WHERE WHAT IT READS IS OF BULK AT MOST 1048576: true; the input reads as it did. -/
def arenaTakesUptoRow : OpenClaim := { program := "ytnhdocmdjlijkaa", sum := "0bca478736114df461ec345c02db5aa634f0f0a0139a0ae44c0cd29572ee27d4", func := "plugtree/pluglaw.ArenaTakes", spec := "arenaTakes", inPlace := ["slices.overlaps[plugtree/api.Span]"], unfollowed := true, recurses := true, plainKeys := false, apart := false, narrowed := true }
def ArenaTakesUptoSaid : Prop := arenaTakesUptoRow.holds Try.pinned (OpenSpec.upto arenaTakesSpec)

/-- 'pluglaw.BudgetPlans', WHERE WHAT IT READS IS OF BULK AT MOST 1048576: true; the input reads as it did. -/
def budgetPlansUptoRow : OpenClaim := { program := "ytnhdocmdjlijkaa", sum := "0bca478736114df461ec345c02db5aa634f0f0a0139a0ae44c0cd29572ee27d4", func := "plugtree/pluglaw.BudgetPlans", spec := "budgetPlans", unfollowed := true, recurses := true, plainKeys := false, apart := false, narrowed := true }
def BudgetPlansUptoSaid : Prop := budgetPlansUptoRow.holds Try.pinned (OpenSpec.upto budgetPlansSpec)

/-- 'pluglaw.HostPlays', WHERE WHAT IT READS IS OF BULK AT MOST 1048576: true; the input reads as it did. -/
def hostPlaysUptoRow : OpenClaim := { program := "ytnhdocmdjlijkaa", sum := "0bca478736114df461ec345c02db5aa634f0f0a0139a0ae44c0cd29572ee27d4", func := "plugtree/pluglaw.HostPlays", spec := "hostPlays", unfollowed := true, recurses := true, plainKeys := false, apart := false, narrowed := true }
def HostPlaysUptoSaid : Prop := hostPlaysUptoRow.holds Try.pinned (OpenSpec.upto hostPlaysSpec)

/-- 'pluglaw.TopoPlugs', WHERE WHAT IT READS IS OF BULK AT MOST 1048576: true; the input reads as it did. -/
def topoPlugsUptoRow : OpenClaim := { program := "ytnhdocmdjlijkaa", sum := "0bca478736114df461ec345c02db5aa634f0f0a0139a0ae44c0cd29572ee27d4", func := "plugtree/pluglaw.TopoPlugs", spec := "topoPlugs", inPlace := ["slices.overlaps[plugtree/api.Node]"], unfollowed := true, recurses := true, plainKeys := false, apart := false, narrowed := true }
def TopoPlugsUptoSaid : Prop := topoPlugsUptoRow.holds Try.pinned (OpenSpec.upto topoPlugsSpec)

/-- 'pluglaw.DescReads', WHERE WHAT IT READS IS OF BULK AT MOST 1048576: true; the input reads as it did. -/
def descReadsUptoRow : OpenClaim := { program := "ytnhdocmdjlijkaa", sum := "0bca478736114df461ec345c02db5aa634f0f0a0139a0ae44c0cd29572ee27d4", func := "plugtree/pluglaw.DescReads", spec := "descReads", inPlace := ["internal/abi.NoEscape", "internal/bytealg.MakeNoZero"], unfollowed := true, recurses := true, plainKeys := false, apart := false, narrowed := true }
def DescReadsUptoSaid : Prop := descReadsUptoRow.holds Try.pinned (OpenSpec.upto descReadsSpec)

end Rows
end Go.Proofs.Ytnhdocmdjlijkaa
