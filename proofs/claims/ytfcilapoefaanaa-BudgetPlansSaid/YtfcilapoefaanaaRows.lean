/-
  No cell of these rows narrows 'for every input' (looked for: loops, veiled, ifaces, maps, wideKeys, modest, calm, conditions, laid).
  DERIVED. THE GIVEN ROWS OF THIS SEAT. 3 by the template 'for every input the law returns true; each argument reads behind the call as it read before'; 0 by the template 'total and deterministic' (their statements: YtfcilapoefaanaaTotals.lean).
  GIVEN WITH THE SEED: the statements are not yours to turn. If you find one false, say at which input.
  Laid BY PROGRAM, IN A SANDBOX (cutbox-rows.mjs): the forced cells as the released guide's own fill.sh prints them over the translation 2ac2997d3852d27d… (all of the seat's roots in one cut). By AI agents, Wed Nov 11 2026. No macro, syntax, notation, axiom, sorry.
-/
import Derived.Test.YtfcilapoefaanaaChecked
import GoSem.Claim
import GoSem.ClaimJoined
import GoSem.ClaimMapViews
import Derived.JoinedTies
import Derived.KernelRfl
namespace Go.Proofs.Ytfcilapoefaanaa
/- THE CELL 'sum', in the pinned program and in every row, IS THE sha256 OF THE DUMP (.gsa) THAT YtfcilapoefaanaaProg.lean LOADS. Nothing in Lean hashes anything: it is a label: what it is worth is what the hold of that sum in a sandbox is worth. -/
noncomputable def Try.pinned : Pinned := { name := "ytfcilapoefaanaa", sum := "2ac2997d3852d27dafb4943e733e00083629715ca1a3ec788f46d0f7369a9b9c", checked := Try.checked }
namespace Rows
def none {H : Type} : Left H := { results := [], args := [] }

/-- 'pluglaw.ArenaTakes': WHATEVER THE INPUT: true; the input reads as it did. -/
def arenaTakesSpec : ChangeSpec := { name := "arenaTakes", fn := fun _ => fun
  | [d1, d2, d3] => { results := [.lit (.bool true)], args := [d1, d2, d3] }
  | _ => none }
def arenaTakesRow : OpenClaim := { program := "ytfcilapoefaanaa", sum := "2ac2997d3852d27dafb4943e733e00083629715ca1a3ec788f46d0f7369a9b9c", func := "plugtree/pluglaw.ArenaTakes", spec := "arenaTakes", inPlace := ["slices.overlaps[plugtree/api.Span]"], unfollowed := true, recurses := true, apart := false }
def ArenaTakesSaid : Prop := arenaTakesRow.holds Try.pinned (OpenSpec.ofChange arenaTakesSpec)

/-- ITS FALSE NEIGHBOUR: 'it returns false'. Refute it at one input. -/
def arenaTakesWrong : ChangeSpec := { name := "arenaTakes", fn := fun _ => fun
  | [d1, d2, d3] => { results := [.lit (.bool false)], args := [d1, d2, d3] }
  | _ => none }
def ArenaTakesWrongFalsely : Prop := arenaTakesRow.holds Try.pinned (OpenSpec.ofChange arenaTakesWrong)

/-- 'pluglaw.TopoPlugs': WHATEVER THE INPUT: true; the input reads as it did. -/
def topoPlugsSpec : ChangeSpec := { name := "topoPlugs", fn := fun _ => fun
  | [d1, d2] => { results := [.lit (.bool true)], args := [d1, d2] }
  | _ => none }
def topoPlugsRow : OpenClaim := { program := "ytfcilapoefaanaa", sum := "2ac2997d3852d27dafb4943e733e00083629715ca1a3ec788f46d0f7369a9b9c", func := "plugtree/pluglaw.TopoPlugs", spec := "topoPlugs", inPlace := ["slices.overlaps[plugtree/api.Node]"], unfollowed := true, recurses := true, apart := false }
def TopoPlugsSaid : Prop := topoPlugsRow.holds Try.pinned (OpenSpec.ofChange topoPlugsSpec)

/-- ITS FALSE NEIGHBOUR: 'it returns false'. Refute it at one input. -/
def topoPlugsWrong : ChangeSpec := { name := "topoPlugs", fn := fun _ => fun
  | [d1, d2] => { results := [.lit (.bool false)], args := [d1, d2] }
  | _ => none }
def TopoPlugsWrongFalsely : Prop := topoPlugsRow.holds Try.pinned (OpenSpec.ofChange topoPlugsWrong)

/-- 'pluglaw.BudgetPlans': WHATEVER THE INPUT: true; the input reads as it did. -/
def budgetPlansSpec : ChangeSpec := { name := "budgetPlans", fn := fun _ => fun
  | [d1, d2] => { results := [.lit (.bool true)], args := [d1, d2] }
  | _ => none }
def budgetPlansRow : OpenClaim := { program := "ytfcilapoefaanaa", sum := "2ac2997d3852d27dafb4943e733e00083629715ca1a3ec788f46d0f7369a9b9c", func := "plugtree/pluglaw.BudgetPlans", spec := "budgetPlans", unfollowed := true, recurses := true, apart := false }
def BudgetPlansSaid : Prop := budgetPlansRow.holds Try.pinned (OpenSpec.ofChange budgetPlansSpec)

/-- ITS FALSE NEIGHBOUR: 'it returns false'. Refute it at one input. -/
def budgetPlansWrong : ChangeSpec := { name := "budgetPlans", fn := fun _ => fun
  | [d1, d2] => { results := [.lit (.bool false)], args := [d1, d2] }
  | _ => none }
def BudgetPlansWrongFalsely : Prop := budgetPlansRow.holds Try.pinned (OpenSpec.ofChange budgetPlansWrong)

/- THE SECOND FORM. 'bulk': how many values and letters a reading holds, each counted each time it is reached (what is shared counts as often as it is met; a slice's spare places count too). A statement '..UptoSaid' is the law's where the arguments, and the package variables that the reading takes, are together of bulk at most 1048576: NARROWER than '..Said'. Prove '..Said' where nothing that the law and all that it calls make is longer than what came in: it says more and counts as full. Else prove '..UptoSaid'. A law counts once. -/
mutual
def uptoBulk {H : Type} : DataW H → Nat
  | .lit (.string bytes) => bytes.length + 1
  | .lit _ => 1
  | .nil => 1
  | .ptr d => uptoBulk d + 1
  | .slice elems spare => uptoBulkAll elems + uptoBulkAll spare + 1
  | .agg parts => uptoBulkAll parts + 1
  | .iface _ d => uptoBulk d + 1
  | .map entries => uptoBulkEntries entries + 1
  | .held _ => 1
def uptoBulkAll {H : Type} : List (DataW H) → Nat
  | [] => 0
  | d :: r => uptoBulk d + uptoBulkAll r
def uptoBulkEntries {H : Type} : List (Lit × DataW H) → Nat
  | [] => 0
  | x :: r => uptoBulkEntry x + uptoBulkEntries r
def uptoBulkEntry {H : Type} : Lit × DataW H → Nat
  | (.string bytes, d) => bytes.length + uptoBulk d + 1
  | (_, d) => uptoBulk d + 1
 end
def uptoSmall : (H : Type) → List (DataW H) → Bool := fun _ ds => decide (uptoBulkAll ds ≤ 1048576)
def OpenSpec.upto (s : _root_.Go.ChangeSpec) : _root_.Go.OpenSpec := { _root_.Go.OpenSpec.ofChange s with cond := some uptoSmall }

/-- 'pluglaw.ArenaTakes', WHERE WHAT IT READS IS OF BULK AT MOST 1048576: true; the input reads as it did. -/
def arenaTakesUptoRow : OpenClaim := { program := "ytfcilapoefaanaa", sum := "2ac2997d3852d27dafb4943e733e00083629715ca1a3ec788f46d0f7369a9b9c", func := "plugtree/pluglaw.ArenaTakes", spec := "arenaTakes", inPlace := ["slices.overlaps[plugtree/api.Span]"], unfollowed := true, recurses := true, apart := false, narrowed := true }
def ArenaTakesUptoSaid : Prop := arenaTakesUptoRow.holds Try.pinned (OpenSpec.upto arenaTakesSpec)

/-- 'pluglaw.TopoPlugs', WHERE WHAT IT READS IS OF BULK AT MOST 1048576: true; the input reads as it did. -/
def topoPlugsUptoRow : OpenClaim := { program := "ytfcilapoefaanaa", sum := "2ac2997d3852d27dafb4943e733e00083629715ca1a3ec788f46d0f7369a9b9c", func := "plugtree/pluglaw.TopoPlugs", spec := "topoPlugs", inPlace := ["slices.overlaps[plugtree/api.Node]"], unfollowed := true, recurses := true, apart := false, narrowed := true }
def TopoPlugsUptoSaid : Prop := topoPlugsUptoRow.holds Try.pinned (OpenSpec.upto topoPlugsSpec)

/-- 'pluglaw.BudgetPlans', WHERE WHAT IT READS IS OF BULK AT MOST 1048576: true; the input reads as it did. -/
def budgetPlansUptoRow : OpenClaim := { program := "ytfcilapoefaanaa", sum := "2ac2997d3852d27dafb4943e733e00083629715ca1a3ec788f46d0f7369a9b9c", func := "plugtree/pluglaw.BudgetPlans", spec := "budgetPlans", unfollowed := true, recurses := true, apart := false, narrowed := true }
def BudgetPlansUptoSaid : Prop := budgetPlansUptoRow.holds Try.pinned (OpenSpec.upto budgetPlansSpec)

end Rows
end Go.Proofs.Ytfcilapoefaanaa
