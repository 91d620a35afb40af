/-
  No cell of these rows narrows 'for every input' (looked for: loops, veiled, ifaces, maps, wideKeys, modest, calm, conditions, laid).
  DERIVED. THE GIVEN ROWS OF THIS SEAT. 11 by the template 'for every input the law returns true; each argument reads behind the call as it read before'; 0 by the template 'total and deterministic' (their statements: YtkhfbleldchnpaaTotals.lean).
  GIVEN WITH THE SEED: the statements are not yours to turn. If you find one false, say at which input.
  Laid BY PROGRAM, IN A SANDBOX (cutbox-rows.mjs): the forced cells as the released guide's own fill.sh prints them over the translation 8a45c4430679ef28… (all of the seat's roots in one cut). By AI agents, Wed Nov 11 2026. No macro, syntax, notation, axiom, sorry.
-/
import Derived.Test.YtkhfbleldchnpaaChecked
import GoSem.Claim
import GoSem.ClaimJoined
import GoSem.ClaimMapViews
import Derived.JoinedTies
import Derived.KernelRfl
namespace Go.Proofs.Ytkhfbleldchnpaa
/- THE CELL 'sum', in the pinned program and in every row, IS THE sha256 OF THE DUMP (.gsa) THAT YtkhfbleldchnpaaProg.lean LOADS. Nothing in Lean hashes anything: it is a label: what it is worth is what the hold of that sum in a sandbox is worth. -/
noncomputable def Try.pinned : Pinned := { name := "ytkhfbleldchnpaa", sum := "8a45c4430679ef28bcc1a96080ca12a3ce11e9e5eada7cb05b20ac459735c35c", checked := Try.checked }
namespace Rows
def none {H : Type} : Left H := { results := [], args := [] }

/-- 'pluglaw.HostPacks': WHATEVER THE INPUT: true; the input reads as it did. -/
def hostPacksSpec : ChangeSpec := { name := "hostPacks", fn := fun _ => fun
  | [d1, d2] => { results := [.lit (.bool true)], args := [d1, d2] }
  | _ => none }
def hostPacksRow : OpenClaim := { program := "ytkhfbleldchnpaa", sum := "8a45c4430679ef28bcc1a96080ca12a3ce11e9e5eada7cb05b20ac459735c35c", func := "plugtree/pluglaw.HostPacks", spec := "hostPacks", unfollowed := true, recurses := true, apart := false }
def HostPacksSaid : Prop := hostPacksRow.holds Try.pinned (OpenSpec.ofChange hostPacksSpec)

/-- ITS FALSE NEIGHBOUR: 'it returns false'. Refute it at one input. -/
def hostPacksWrong : ChangeSpec := { name := "hostPacks", fn := fun _ => fun
  | [d1, d2] => { results := [.lit (.bool false)], args := [d1, d2] }
  | _ => none }
def HostPacksWrongFalsely : Prop := hostPacksRow.holds Try.pinned (OpenSpec.ofChange hostPacksWrong)

/-- 'pluglaw.SlotsHalt': WHATEVER THE INPUT: true; the input reads as it did. -/
def slotsHaltSpec : ChangeSpec := { name := "slotsHalt", fn := fun _ => fun
  | [d1, d2, d3] => { results := [.lit (.bool true)], args := [d1, d2, d3] }
  | _ => none }
def slotsHaltRow : OpenClaim := { program := "ytkhfbleldchnpaa", sum := "8a45c4430679ef28bcc1a96080ca12a3ce11e9e5eada7cb05b20ac459735c35c", func := "plugtree/pluglaw.SlotsHalt", spec := "slotsHalt", apart := false }
def SlotsHaltSaid : Prop := slotsHaltRow.holds Try.pinned (OpenSpec.ofChange slotsHaltSpec)

/-- ITS FALSE NEIGHBOUR: 'it returns false'. Refute it at one input. -/
def slotsHaltWrong : ChangeSpec := { name := "slotsHalt", fn := fun _ => fun
  | [d1, d2, d3] => { results := [.lit (.bool false)], args := [d1, d2, d3] }
  | _ => none }
def SlotsHaltWrongFalsely : Prop := slotsHaltRow.holds Try.pinned (OpenSpec.ofChange slotsHaltWrong)

/-- 'pluglaw.SlotsDo': WHATEVER THE INPUT: true; the input reads as it did. -/
def slotsDoSpec : ChangeSpec := { name := "slotsDo", fn := fun _ => fun
  | [d1, d2] => { results := [.lit (.bool true)], args := [d1, d2] }
  | _ => none }
def slotsDoRow : OpenClaim := { program := "ytkhfbleldchnpaa", sum := "8a45c4430679ef28bcc1a96080ca12a3ce11e9e5eada7cb05b20ac459735c35c", func := "plugtree/pluglaw.SlotsDo", spec := "slotsDo", apart := false }
def SlotsDoSaid : Prop := slotsDoRow.holds Try.pinned (OpenSpec.ofChange slotsDoSpec)

/-- ITS FALSE NEIGHBOUR: 'it returns false'. Refute it at one input. -/
def slotsDoWrong : ChangeSpec := { name := "slotsDo", fn := fun _ => fun
  | [d1, d2] => { results := [.lit (.bool false)], args := [d1, d2] }
  | _ => none }
def SlotsDoWrongFalsely : Prop := slotsDoRow.holds Try.pinned (OpenSpec.ofChange slotsDoWrong)

/-- 'pluglaw.ArenaChecks': WHATEVER THE INPUT: true; the input reads as it did. -/
def arenaChecksSpec : ChangeSpec := { name := "arenaChecks", fn := fun _ => fun
  | [d1, d2] => { results := [.lit (.bool true)], args := [d1, d2] }
  | _ => none }
def arenaChecksRow : OpenClaim := { program := "ytkhfbleldchnpaa", sum := "8a45c4430679ef28bcc1a96080ca12a3ce11e9e5eada7cb05b20ac459735c35c", func := "plugtree/pluglaw.ArenaChecks", spec := "arenaChecks", apart := false }
def ArenaChecksSaid : Prop := arenaChecksRow.holds Try.pinned (OpenSpec.ofChange arenaChecksSpec)

/-- ITS FALSE NEIGHBOUR: 'it returns false'. Refute it at one input. -/
def arenaChecksWrong : ChangeSpec := { name := "arenaChecks", fn := fun _ => fun
  | [d1, d2] => { results := [.lit (.bool false)], args := [d1, d2] }
  | _ => none }
def ArenaChecksWrongFalsely : Prop := arenaChecksRow.holds Try.pinned (OpenSpec.ofChange arenaChecksWrong)

/-- 'pluglaw.ArenaGives': WHATEVER THE INPUT: true; the input reads as it did. -/
def arenaGivesSpec : ChangeSpec := { name := "arenaGives", fn := fun _ => fun
  | [d1, d2] => { results := [.lit (.bool true)], args := [d1, d2] }
  | _ => none }
def arenaGivesRow : OpenClaim := { program := "ytkhfbleldchnpaa", sum := "8a45c4430679ef28bcc1a96080ca12a3ce11e9e5eada7cb05b20ac459735c35c", func := "plugtree/pluglaw.ArenaGives", spec := "arenaGives", unfollowed := true, recurses := true, apart := false }
def ArenaGivesSaid : Prop := arenaGivesRow.holds Try.pinned (OpenSpec.ofChange arenaGivesSpec)

/-- ITS FALSE NEIGHBOUR: 'it returns false'. Refute it at one input. -/
def arenaGivesWrong : ChangeSpec := { name := "arenaGives", fn := fun _ => fun
  | [d1, d2] => { results := [.lit (.bool false)], args := [d1, d2] }
  | _ => none }
def ArenaGivesWrongFalsely : Prop := arenaGivesRow.holds Try.pinned (OpenSpec.ofChange arenaGivesWrong)

/-- 'pluglaw.ArenaTakes': WHATEVER THE INPUT: true; the input reads as it did. -/
def arenaTakesSpec : ChangeSpec := { name := "arenaTakes", fn := fun _ => fun
  | [d1, d2, d3] => { results := [.lit (.bool true)], args := [d1, d2, d3] }
  | _ => none }
def arenaTakesRow : OpenClaim := { program := "ytkhfbleldchnpaa", sum := "8a45c4430679ef28bcc1a96080ca12a3ce11e9e5eada7cb05b20ac459735c35c", func := "plugtree/pluglaw.ArenaTakes", spec := "arenaTakes", inPlace := ["slices.overlaps[plugtree/api.Span]"], unfollowed := true, recurses := true, apart := false }
def ArenaTakesSaid : Prop := arenaTakesRow.holds Try.pinned (OpenSpec.ofChange arenaTakesSpec)

/-- ITS FALSE NEIGHBOUR: 'it returns false'. Refute it at one input. -/
def arenaTakesWrong : ChangeSpec := { name := "arenaTakes", fn := fun _ => fun
  | [d1, d2, d3] => { results := [.lit (.bool false)], args := [d1, d2, d3] }
  | _ => none }
def ArenaTakesWrongFalsely : Prop := arenaTakesRow.holds Try.pinned (OpenSpec.ofChange arenaTakesWrong)

/-- 'pluglaw.RingPuts': WHATEVER THE INPUT: true; the input reads as it did. -/
def ringPutsSpec : ChangeSpec := { name := "ringPuts", fn := fun _ => fun
  | [d1, d2] => { results := [.lit (.bool true)], args := [d1, d2] }
  | _ => none }
def ringPutsRow : OpenClaim := { program := "ytkhfbleldchnpaa", sum := "8a45c4430679ef28bcc1a96080ca12a3ce11e9e5eada7cb05b20ac459735c35c", func := "plugtree/pluglaw.RingPuts", spec := "ringPuts", unfollowed := true, recurses := true, apart := false }
def RingPutsSaid : Prop := ringPutsRow.holds Try.pinned (OpenSpec.ofChange ringPutsSpec)

/-- ITS FALSE NEIGHBOUR: 'it returns false'. Refute it at one input. -/
def ringPutsWrong : ChangeSpec := { name := "ringPuts", fn := fun _ => fun
  | [d1, d2] => { results := [.lit (.bool false)], args := [d1, d2] }
  | _ => none }
def RingPutsWrongFalsely : Prop := ringPutsRow.holds Try.pinned (OpenSpec.ofChange ringPutsWrong)

/-- 'pluglaw.RingGets': WHATEVER THE INPUT: true; the input reads as it did. -/
def ringGetsSpec : ChangeSpec := { name := "ringGets", fn := fun _ => fun
  | [d] => { results := [.lit (.bool true)], args := [d] }
  | _ => none }
def ringGetsRow : OpenClaim := { program := "ytkhfbleldchnpaa", sum := "8a45c4430679ef28bcc1a96080ca12a3ce11e9e5eada7cb05b20ac459735c35c", func := "plugtree/pluglaw.RingGets", spec := "ringGets", unfollowed := true, recurses := true, apart := false }
def RingGetsSaid : Prop := ringGetsRow.holds Try.pinned (OpenSpec.ofChange ringGetsSpec)

/-- ITS FALSE NEIGHBOUR: 'it returns false'. Refute it at one input. -/
def ringGetsWrong : ChangeSpec := { name := "ringGets", fn := fun _ => fun
  | [d] => { results := [.lit (.bool false)], args := [d] }
  | _ => none }
def RingGetsWrongFalsely : Prop := ringGetsRow.holds Try.pinned (OpenSpec.ofChange ringGetsWrong)

/-- 'pluglaw.RingPlays': WHATEVER THE INPUT: true; the input reads as it did. -/
def ringPlaysSpec : ChangeSpec := { name := "ringPlays", fn := fun _ => fun
  | [d1, d2] => { results := [.lit (.bool true)], args := [d1, d2] }
  | _ => none }
def ringPlaysRow : OpenClaim := { program := "ytkhfbleldchnpaa", sum := "8a45c4430679ef28bcc1a96080ca12a3ce11e9e5eada7cb05b20ac459735c35c", func := "plugtree/pluglaw.RingPlays", spec := "ringPlays", unfollowed := true, recurses := true, apart := false }
def RingPlaysSaid : Prop := ringPlaysRow.holds Try.pinned (OpenSpec.ofChange ringPlaysSpec)

/-- ITS FALSE NEIGHBOUR: 'it returns false'. Refute it at one input. -/
def ringPlaysWrong : ChangeSpec := { name := "ringPlays", fn := fun _ => fun
  | [d1, d2] => { results := [.lit (.bool false)], args := [d1, d2] }
  | _ => none }
def RingPlaysWrongFalsely : Prop := ringPlaysRow.holds Try.pinned (OpenSpec.ofChange ringPlaysWrong)

/-- 'pluglaw.HostSteps': WHATEVER THE INPUT: true; the input reads as it did. -/
def hostStepsSpec : ChangeSpec := { name := "hostSteps", fn := fun _ => fun
  | [d1, d2, d3] => { results := [.lit (.bool true)], args := [d1, d2, d3] }
  | _ => none }
def hostStepsRow : OpenClaim := { program := "ytkhfbleldchnpaa", sum := "8a45c4430679ef28bcc1a96080ca12a3ce11e9e5eada7cb05b20ac459735c35c", func := "plugtree/pluglaw.HostSteps", spec := "hostSteps", unfollowed := true, recurses := true, apart := false }
def HostStepsSaid : Prop := hostStepsRow.holds Try.pinned (OpenSpec.ofChange hostStepsSpec)

/-- ITS FALSE NEIGHBOUR: 'it returns false'. Refute it at one input. -/
def hostStepsWrong : ChangeSpec := { name := "hostSteps", fn := fun _ => fun
  | [d1, d2, d3] => { results := [.lit (.bool false)], args := [d1, d2, d3] }
  | _ => none }
def HostStepsWrongFalsely : Prop := hostStepsRow.holds Try.pinned (OpenSpec.ofChange hostStepsWrong)

/-- 'pluglaw.HostPlays': WHATEVER THE INPUT: true; the input reads as it did. -/
def hostPlaysSpec : ChangeSpec := { name := "hostPlays", fn := fun _ => fun
  | [d1, d2, d3] => { results := [.lit (.bool true)], args := [d1, d2, d3] }
  | _ => none }
def hostPlaysRow : OpenClaim := { program := "ytkhfbleldchnpaa", sum := "8a45c4430679ef28bcc1a96080ca12a3ce11e9e5eada7cb05b20ac459735c35c", func := "plugtree/pluglaw.HostPlays", spec := "hostPlays", unfollowed := true, recurses := true, apart := false }
def HostPlaysSaid : Prop := hostPlaysRow.holds Try.pinned (OpenSpec.ofChange hostPlaysSpec)

/-- ITS FALSE NEIGHBOUR: 'it returns false'. Refute it at one input. -/
def hostPlaysWrong : ChangeSpec := { name := "hostPlays", fn := fun _ => fun
  | [d1, d2, d3] => { results := [.lit (.bool false)], args := [d1, d2, d3] }
  | _ => none }
def HostPlaysWrongFalsely : Prop := hostPlaysRow.holds Try.pinned (OpenSpec.ofChange hostPlaysWrong)

/- THE SECOND FORM. 'bulk': how many values and letters a reading holds, each counted each time it is reached (what is shared counts as often as it is met; a slice's spare places count too). A statement '..UptoSaid' is the law's where the arguments, and the package variables that the reading takes, are together of bulk at most 1048576: NARROWER than '..Said'. Prove '..Said' where nothing that the law and all that it calls make is longer than what came in: it says more and counts as full. Else prove '..UptoSaid'. A law counts once. -/
mutual
def uptoBulk {H : Type} : DataW H → Nat
  | .lit (.string bytes) => bytes.length + 1
  | .lit _ => 1
  | .nil => 1
  | .ptr d => uptoBulk d + 1
  | .slice elems spare => uptoBulkAll elems + uptoBulkAll spare + 1
  | .agg parts => uptoBulkAll parts + 1
  | .iface _ d => uptoBulk d + 1
  | .map entries => uptoBulkEntries entries + 1
  | .held _ => 1
def uptoBulkAll {H : Type} : List (DataW H) → Nat
  | [] => 0
  | d :: r => uptoBulk d + uptoBulkAll r
def uptoBulkEntries {H : Type} : List (Lit × DataW H) → Nat
  | [] => 0
  | x :: r => uptoBulkEntry x + uptoBulkEntries r
def uptoBulkEntry {H : Type} : Lit × DataW H → Nat
  | (.string bytes, d) => bytes.length + uptoBulk d + 1
  | (_, d) => uptoBulk d + 1
 end
def uptoSmall : (H : Type) → List (DataW H) → Bool := fun _ ds => decide (uptoBulkAll ds ≤ 1048576)
def OpenSpec.upto (s : _root_.Go.ChangeSpec) : _root_.Go.OpenSpec := { _root_.Go.OpenSpec.ofChange s with cond := some uptoSmall }

/-- 'pluglaw.HostPacks', WHERE WHAT IT READS IS OF BULK AT MOST 1048576: true; the input reads as it did. -/
def hostPacksUptoRow : OpenClaim := { program := "ytkhfbleldchnpaa", sum := "8a45c4430679ef28bcc1a96080ca12a3ce11e9e5eada7cb05b20ac459735c35c", func := "plugtree/pluglaw.HostPacks", spec := "hostPacks", unfollowed := true, recurses := true, apart := false, narrowed := true }
def HostPacksUptoSaid : Prop := hostPacksUptoRow.holds Try.pinned (OpenSpec.upto hostPacksSpec)

/-- 'pluglaw.SlotsHalt', WHERE WHAT IT READS IS OF BULK AT MOST 1048576: true; the input reads as it did. -/
def slotsHaltUptoRow : OpenClaim := { program := "ytkhfbleldchnpaa", sum := "8a45c4430679ef28bcc1a96080ca12a3ce11e9e5eada7cb05b20ac459735c35c", func := "plugtree/pluglaw.SlotsHalt", spec := "slotsHalt", apart := false, narrowed := true }
def SlotsHaltUptoSaid : Prop := slotsHaltUptoRow.holds Try.pinned (OpenSpec.upto slotsHaltSpec)

/-- 'pluglaw.SlotsDo', WHERE WHAT IT READS IS OF BULK AT MOST 1048576: true; the input reads as it did. -/
def slotsDoUptoRow : OpenClaim := { program := "ytkhfbleldchnpaa", sum := "8a45c4430679ef28bcc1a96080ca12a3ce11e9e5eada7cb05b20ac459735c35c", func := "plugtree/pluglaw.SlotsDo", spec := "slotsDo", apart := false, narrowed := true }
def SlotsDoUptoSaid : Prop := slotsDoUptoRow.holds Try.pinned (OpenSpec.upto slotsDoSpec)

/-- 'pluglaw.ArenaChecks', WHERE WHAT IT READS IS OF BULK AT MOST 1048576: true; the input reads as it did. -/
def arenaChecksUptoRow : OpenClaim := { program := "ytkhfbleldchnpaa", sum := "8a45c4430679ef28bcc1a96080ca12a3ce11e9e5eada7cb05b20ac459735c35c", func := "plugtree/pluglaw.ArenaChecks", spec := "arenaChecks", apart := false, narrowed := true }
def ArenaChecksUptoSaid : Prop := arenaChecksUptoRow.holds Try.pinned (OpenSpec.upto arenaChecksSpec)

/-- 'pluglaw.ArenaGives', WHERE WHAT IT READS IS OF BULK AT MOST 1048576: true; the input reads as it did. -/
def arenaGivesUptoRow : OpenClaim := { program := "ytkhfbleldchnpaa", sum := "8a45c4430679ef28bcc1a96080ca12a3ce11e9e5eada7cb05b20ac459735c35c", func := "plugtree/pluglaw.ArenaGives", spec := "arenaGives", unfollowed := true, recurses := true, apart := false, narrowed := true }
def ArenaGivesUptoSaid : Prop := arenaGivesUptoRow.holds Try.pinned (OpenSpec.upto arenaGivesSpec)

/-- 'pluglaw.ArenaTakes', WHERE WHAT IT READS IS OF BULK AT MOST 1048576: true; the input reads as it did. -/
def arenaTakesUptoRow : OpenClaim := { program := "ytkhfbleldchnpaa", sum := "8a45c4430679ef28bcc1a96080ca12a3ce11e9e5eada7cb05b20ac459735c35c", func := "plugtree/pluglaw.ArenaTakes", spec := "arenaTakes", inPlace := ["slices.overlaps[plugtree/api.Span]"], unfollowed := true, recurses := true, apart := false, narrowed := true }
def ArenaTakesUptoSaid : Prop := arenaTakesUptoRow.holds Try.pinned (OpenSpec.upto arenaTakesSpec)

/-- 'pluglaw.RingPuts', WHERE WHAT IT READS IS OF BULK AT MOST 1048576: true; the input reads as it did. -/
def ringPutsUptoRow : OpenClaim := { program := "ytkhfbleldchnpaa", sum := "8a45c4430679ef28bcc1a96080ca12a3ce11e9e5eada7cb05b20ac459735c35c", func := "plugtree/pluglaw.RingPuts", spec := "ringPuts", unfollowed := true, recurses := true, apart := false, narrowed := true }
def RingPutsUptoSaid : Prop := ringPutsUptoRow.holds Try.pinned (OpenSpec.upto ringPutsSpec)

/-- 'pluglaw.RingGets', WHERE WHAT IT READS IS OF BULK AT MOST 1048576: true; the input reads as it did. -/
def ringGetsUptoRow : OpenClaim := { program := "ytkhfbleldchnpaa", sum := "8a45c4430679ef28bcc1a96080ca12a3ce11e9e5eada7cb05b20ac459735c35c", func := "plugtree/pluglaw.RingGets", spec := "ringGets", unfollowed := true, recurses := true, apart := false, narrowed := true }
def RingGetsUptoSaid : Prop := ringGetsUptoRow.holds Try.pinned (OpenSpec.upto ringGetsSpec)

/-- 'pluglaw.RingPlays', WHERE WHAT IT READS IS OF BULK AT MOST 1048576: true; the input reads as it did. -/
def ringPlaysUptoRow : OpenClaim := { program := "ytkhfbleldchnpaa", sum := "8a45c4430679ef28bcc1a96080ca12a3ce11e9e5eada7cb05b20ac459735c35c", func := "plugtree/pluglaw.RingPlays", spec := "ringPlays", unfollowed := true, recurses := true, apart := false, narrowed := true }
def RingPlaysUptoSaid : Prop := ringPlaysUptoRow.holds Try.pinned (OpenSpec.upto ringPlaysSpec)

/-- 'pluglaw.HostSteps', WHERE WHAT IT READS IS OF BULK AT MOST 1048576: true; the input reads as it did. -/
def hostStepsUptoRow : OpenClaim := { program := "ytkhfbleldchnpaa", sum := "8a45c4430679ef28bcc1a96080ca12a3ce11e9e5eada7cb05b20ac459735c35c", func := "plugtree/pluglaw.HostSteps", spec := "hostSteps", unfollowed := true, recurses := true, apart := false, narrowed := true }
def HostStepsUptoSaid : Prop := hostStepsUptoRow.holds Try.pinned (OpenSpec.upto hostStepsSpec)

/-- 'pluglaw.HostPlays', WHERE WHAT IT READS IS OF BULK AT MOST 1048576: true; the input reads as it did. -/
def hostPlaysUptoRow : OpenClaim := { program := "ytkhfbleldchnpaa", sum := "8a45c4430679ef28bcc1a96080ca12a3ce11e9e5eada7cb05b20ac459735c35c", func := "plugtree/pluglaw.HostPlays", spec := "hostPlays", unfollowed := true, recurses := true, apart := false, narrowed := true }
def HostPlaysUptoSaid : Prop := hostPlaysUptoRow.holds Try.pinned (OpenSpec.upto hostPlaysSpec)

end Rows
end Go.Proofs.Ytkhfbleldchnpaa
