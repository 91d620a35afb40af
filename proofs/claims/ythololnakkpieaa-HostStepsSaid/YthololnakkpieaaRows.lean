/-
  No cell of these rows narrows 'for every input' (looked for: loops, veiled, ifaces, maps, wideKeys, modest, calm, conditions, laid).
  DERIVED. THE GIVEN ROWS OF THIS SEAT. 4 by the template 'for every input the law returns true; each argument reads behind the call as it read before'; 0 by the template 'total and deterministic' (their statements: YthololnakkpieaaTotals.lean).
  GIVEN WITH THE SEED: the statements are not yours to turn. If you find one false, say at which input.
  Laid BY PROGRAM, IN A SANDBOX (cutbox-rows.mjs): the forced cells as the released guide's own fill.sh prints them over the translation 6d2080750a86f0e5… (all of the seat's roots in one cut). By AI agents, Wed Nov 11 2026. No macro, syntax, notation, axiom, sorry.
-/
import Derived.Test.YthololnakkpieaaChecked
import GoSem.Claim
import GoSem.ClaimJoined
import GoSem.ClaimMapViews
import Derived.JoinedTies
import Derived.KernelRfl
namespace Go.Proofs.Ythololnakkpieaa
/- THE CELL 'sum', in the pinned program and in every row, IS THE sha256 OF THE DUMP (.gsa) THAT YthololnakkpieaaProg.lean LOADS. Nothing in Lean hashes anything: it is a label: what it is worth is what the hold of that sum in a sandbox is worth. -/
noncomputable def Try.pinned : Pinned := { name := "ythololnakkpieaa", sum := "6d2080750a86f0e5164164a3efa546371bb8d1c2eb0c510cba9dffe8f129b5af", checked := Try.checked }
namespace Rows
def none {H : Type} : Left H := { results := [], args := [] }

/-- 'pluglaw.ArenaGives': WHATEVER THE INPUT: true; the input reads as it did. -/
def arenaGivesSpec : ChangeSpec := { name := "arenaGives", fn := fun _ => fun
  | [d1, d2] => { results := [.lit (.bool true)], args := [d1, d2] }
  | _ => none }
def arenaGivesRow : OpenClaim := { program := "ythololnakkpieaa", sum := "6d2080750a86f0e5164164a3efa546371bb8d1c2eb0c510cba9dffe8f129b5af", func := "plugtree/pluglaw.ArenaGives", spec := "arenaGives", unfollowed := true, recurses := true, apart := false }
def ArenaGivesSaid : Prop := arenaGivesRow.holds Try.pinned (OpenSpec.ofChange arenaGivesSpec)

/-- ITS FALSE NEIGHBOUR: 'it returns false'. Refute it at one input. -/
def arenaGivesWrong : ChangeSpec := { name := "arenaGives", fn := fun _ => fun
  | [d1, d2] => { results := [.lit (.bool false)], args := [d1, d2] }
  | _ => none }
def ArenaGivesWrongFalsely : Prop := arenaGivesRow.holds Try.pinned (OpenSpec.ofChange arenaGivesWrong)

/-- 'pluglaw.ArenaTakes': WHATEVER THE INPUT: true; the input reads as it did. -/
def arenaTakesSpec : ChangeSpec := { name := "arenaTakes", fn := fun _ => fun
  | [d1, d2, d3] => { results := [.lit (.bool true)], args := [d1, d2, d3] }
  | _ => none }
def arenaTakesRow : OpenClaim := { program := "ythololnakkpieaa", sum := "6d2080750a86f0e5164164a3efa546371bb8d1c2eb0c510cba9dffe8f129b5af", func := "plugtree/pluglaw.ArenaTakes", spec := "arenaTakes", inPlace := ["slices.overlaps[plugtree/api.Span]"], unfollowed := true, recurses := true, apart := false }
def ArenaTakesSaid : Prop := arenaTakesRow.holds Try.pinned (OpenSpec.ofChange arenaTakesSpec)

/-- ITS FALSE NEIGHBOUR: 'it returns false'. Refute it at one input. -/
def arenaTakesWrong : ChangeSpec := { name := "arenaTakes", fn := fun _ => fun
  | [d1, d2, d3] => { results := [.lit (.bool false)], args := [d1, d2, d3] }
  | _ => none }
def ArenaTakesWrongFalsely : Prop := arenaTakesRow.holds Try.pinned (OpenSpec.ofChange arenaTakesWrong)

/-- 'pluglaw.HostSteps': WHATEVER THE INPUT: true; the input reads as it did. -/
def hostStepsSpec : ChangeSpec := { name := "hostSteps", fn := fun _ => fun
  | [d1, d2, d3] => { results := [.lit (.bool true)], args := [d1, d2, d3] }
  | _ => none }
def hostStepsRow : OpenClaim := { program := "ythololnakkpieaa", sum := "6d2080750a86f0e5164164a3efa546371bb8d1c2eb0c510cba9dffe8f129b5af", func := "plugtree/pluglaw.HostSteps", spec := "hostSteps", unfollowed := true, recurses := true, apart := false }
def HostStepsSaid : Prop := hostStepsRow.holds Try.pinned (OpenSpec.ofChange hostStepsSpec)

/-- ITS FALSE NEIGHBOUR: 'it returns false'. Refute it at one input. -/
def hostStepsWrong : ChangeSpec := { name := "hostSteps", fn := fun _ => fun
  | [d1, d2, d3] => { results := [.lit (.bool false)], args := [d1, d2, d3] }
  | _ => none }
def HostStepsWrongFalsely : Prop := hostStepsRow.holds Try.pinned (OpenSpec.ofChange hostStepsWrong)

/-- 'pluglaw.HostPlays': WHATEVER THE INPUT: true; the input reads as it did. -/
def hostPlaysSpec : ChangeSpec := { name := "hostPlays", fn := fun _ => fun
  | [d1, d2, d3] => { results := [.lit (.bool true)], args := [d1, d2, d3] }
  | _ => none }
def hostPlaysRow : OpenClaim := { program := "ythololnakkpieaa", sum := "6d2080750a86f0e5164164a3efa546371bb8d1c2eb0c510cba9dffe8f129b5af", func := "plugtree/pluglaw.HostPlays", spec := "hostPlays", unfollowed := true, recurses := true, apart := false }
def HostPlaysSaid : Prop := hostPlaysRow.holds Try.pinned (OpenSpec.ofChange hostPlaysSpec)

/-- ITS FALSE NEIGHBOUR: 'it returns false'. Refute it at one input. -/
def hostPlaysWrong : ChangeSpec := { name := "hostPlays", fn := fun _ => fun
  | [d1, d2, d3] => { results := [.lit (.bool false)], args := [d1, d2, d3] }
  | _ => none }
def HostPlaysWrongFalsely : Prop := hostPlaysRow.holds Try.pinned (OpenSpec.ofChange hostPlaysWrong)

/- THE SECOND FORM. 'bulk': how many values and letters a reading holds, each counted each time it is reached (what is shared counts as often as it is met; a slice's spare places count too). A statement '..UptoSaid' is the law's where the arguments, and the package variables that the reading takes, are together of bulk at most 1048576: NARROWER than '..Said'. Prove '..Said' where nothing that the law and all that it calls make is longer than what came in: it says more and counts as full. Else prove '..UptoSaid'. A law counts once. -/
mutual
def uptoBulk {H : Type} : DataW H → Nat
  | .lit (.string bytes) => bytes.length + 1
  | .lit _ => 1
  | .nil => 1
  | .ptr d => uptoBulk d + 1
  | .slice elems spare => uptoBulkAll elems + uptoBulkAll spare + 1
  | .agg parts => uptoBulkAll parts + 1
  | .iface _ d => uptoBulk d + 1
  | .map entries => uptoBulkEntries entries + 1
  | .held _ => 1
def uptoBulkAll {H : Type} : List (DataW H) → Nat
  | [] => 0
  | d :: r => uptoBulk d + uptoBulkAll r
def uptoBulkEntries {H : Type} : List (Lit × DataW H) → Nat
  | [] => 0
  | x :: r => uptoBulkEntry x + uptoBulkEntries r
def uptoBulkEntry {H : Type} : Lit × DataW H → Nat
  | (.string bytes, d) => bytes.length + uptoBulk d + 1
  | (_, d) => uptoBulk d + 1
 end
def uptoSmall : (H : Type) → List (DataW H) → Bool := fun _ ds => decide (uptoBulkAll ds ≤ 1048576)
def OpenSpec.upto (s : _root_.Go.ChangeSpec) : _root_.Go.OpenSpec := { _root_.Go.OpenSpec.ofChange s with cond := some uptoSmall }

/-- 'pluglaw.ArenaGives', WHERE WHAT IT READS IS OF BULK AT MOST 1048576: true; the input reads as it did. -/
def arenaGivesUptoRow : OpenClaim := { program := "ythololnakkpieaa", sum := "6d2080750a86f0e5164164a3efa546371bb8d1c2eb0c510cba9dffe8f129b5af", func := "plugtree/pluglaw.ArenaGives", spec := "arenaGives", unfollowed := true, recurses := true, apart := false, narrowed := true }
def ArenaGivesUptoSaid : Prop := arenaGivesUptoRow.holds Try.pinned (OpenSpec.upto arenaGivesSpec)

/-- 'pluglaw.ArenaTakes', WHERE WHAT IT READS IS OF BULK AT MOST 1048576: true; the input reads as it did. -/
def arenaTakesUptoRow : OpenClaim := { program := "ythololnakkpieaa", sum := "6d2080750a86f0e5164164a3efa546371bb8d1c2eb0c510cba9dffe8f129b5af", func := "plugtree/pluglaw.ArenaTakes", spec := "arenaTakes", inPlace := ["slices.overlaps[plugtree/api.Span]"], unfollowed := true, recurses := true, apart := false, narrowed := true }
def ArenaTakesUptoSaid : Prop := arenaTakesUptoRow.holds Try.pinned (OpenSpec.upto arenaTakesSpec)

/-- 'pluglaw.HostSteps', WHERE WHAT IT READS IS OF BULK AT MOST 1048576: true; the input reads as it did. -/
def hostStepsUptoRow : OpenClaim := { program := "ythololnakkpieaa", sum := "6d2080750a86f0e5164164a3efa546371bb8d1c2eb0c510cba9dffe8f129b5af", func := "plugtree/pluglaw.HostSteps", spec := "hostSteps", unfollowed := true, recurses := true, apart := false, narrowed := true }
def HostStepsUptoSaid : Prop := hostStepsUptoRow.holds Try.pinned (OpenSpec.upto hostStepsSpec)

/-- 'pluglaw.HostPlays', WHERE WHAT IT READS IS OF BULK AT MOST 1048576: true; the input reads as it did. -/
def hostPlaysUptoRow : OpenClaim := { program := "ythololnakkpieaa", sum := "6d2080750a86f0e5164164a3efa546371bb8d1c2eb0c510cba9dffe8f129b5af", func := "plugtree/pluglaw.HostPlays", spec := "hostPlays", unfollowed := true, recurses := true, apart := false, narrowed := true }
def HostPlaysUptoSaid : Prop := hostPlaysUptoRow.holds Try.pinned (OpenSpec.upto hostPlaysSpec)

end Rows
end Go.Proofs.Ythololnakkpieaa
