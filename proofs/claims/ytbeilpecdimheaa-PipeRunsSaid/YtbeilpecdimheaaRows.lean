/-
  No cell of these rows narrows 'for every input' (looked for: loops, veiled, ifaces, maps, wideKeys, modest, calm, conditions, laid).
  DERIVED. THE GIVEN ROWS OF THIS SEAT. 12 by the template 'for every input the law returns true; each argument reads behind the call as it read before'; 0 by the template 'total and deterministic' (their statements: YtbeilpecdimheaaTotals.lean).
  GIVEN WITH THE SEED: the statements are not yours to turn. If you find one false, say at which input.
  Laid BY PROGRAM, IN A SANDBOX (cutbox-rows.mjs): the forced cells as the released guide's own fill.sh prints them over the translation 6cb5b724f576149b… (all of the seat's roots in one cut). By AI agents, Wed Nov 11 2026. No macro, syntax, notation, axiom, sorry.
-/
import Derived.Test.YtbeilpecdimheaaChecked
import GoSem.Claim
import GoSem.ClaimJoined
import GoSem.ClaimMapViews
import Derived.JoinedTies
import Derived.KernelRfl
namespace Go.Proofs.Ytbeilpecdimheaa
/- THE CELL 'sum', in the pinned program and in every row, IS THE sha256 OF THE DUMP (.gsa) THAT YtbeilpecdimheaaProg.lean LOADS. Nothing in Lean hashes anything: it is a label: what it is worth is what the hold of that sum in a sandbox is worth. -/
noncomputable def Try.pinned : Pinned := { name := "ytbeilpecdimheaa", sum := "6cb5b724f576149b4ee18e1d7ed9f67ddf428f5768054627495988a7d3308db6", checked := Try.checked }
namespace Rows
def none {H : Type} : Left H := { results := [], args := [] }

/-- 'pluglaw.PacketReads': WHATEVER THE INPUT: true; the input reads as it did. -/
def packetReadsSpec : ChangeSpec := { name := "packetReads", fn := fun _ => fun
  | [d] => { results := [.lit (.bool true)], args := [d] }
  | _ => none }
def packetReadsRow : OpenClaim := { program := "ytbeilpecdimheaa", sum := "6cb5b724f576149b4ee18e1d7ed9f67ddf428f5768054627495988a7d3308db6", func := "plugtree/pluglaw.PacketReads", spec := "packetReads", inPlace := ["internal/bytealg.IndexByteString"], apart := false }
def PacketReadsSaid : Prop := packetReadsRow.holds Try.pinned (OpenSpec.ofChange packetReadsSpec)

/-- ITS FALSE NEIGHBOUR: 'it returns false'. Refute it at one input. -/
def packetReadsWrong : ChangeSpec := { name := "packetReads", fn := fun _ => fun
  | [d] => { results := [.lit (.bool false)], args := [d] }
  | _ => none }
def PacketReadsWrongFalsely : Prop := packetReadsRow.holds Try.pinned (OpenSpec.ofChange packetReadsWrong)

/-- 'pluglaw.BulkJudges': WHATEVER THE INPUT: true; the input reads as it did. -/
def bulkJudgesSpec : ChangeSpec := { name := "bulkJudges", fn := fun _ => fun
  | [d1, d2] => { results := [.lit (.bool true)], args := [d1, d2] }
  | _ => none }
def bulkJudgesRow : OpenClaim := { program := "ytbeilpecdimheaa", sum := "6cb5b724f576149b4ee18e1d7ed9f67ddf428f5768054627495988a7d3308db6", func := "plugtree/pluglaw.BulkJudges", spec := "bulkJudges", inPlace := ["internal/bytealg.IndexByteString"], apart := false }
def BulkJudgesSaid : Prop := bulkJudgesRow.holds Try.pinned (OpenSpec.ofChange bulkJudgesSpec)

/-- ITS FALSE NEIGHBOUR: 'it returns false'. Refute it at one input. -/
def bulkJudgesWrong : ChangeSpec := { name := "bulkJudges", fn := fun _ => fun
  | [d1, d2] => { results := [.lit (.bool false)], args := [d1, d2] }
  | _ => none }
def BulkJudgesWrongFalsely : Prop := bulkJudgesRow.holds Try.pinned (OpenSpec.ofChange bulkJudgesWrong)

/-- 'pluglaw.RegisterLets': WHATEVER THE INPUT: true; the input reads as it did. -/
def registerLetsSpec : ChangeSpec := { name := "registerLets", fn := fun _ => fun
  | [d1, d2] => { results := [.lit (.bool true)], args := [d1, d2] }
  | _ => none }
def registerLetsRow : OpenClaim := { program := "ytbeilpecdimheaa", sum := "6cb5b724f576149b4ee18e1d7ed9f67ddf428f5768054627495988a7d3308db6", func := "plugtree/pluglaw.RegisterLets", spec := "registerLets", apart := false }
def RegisterLetsSaid : Prop := registerLetsRow.holds Try.pinned (OpenSpec.ofChange registerLetsSpec)

/-- ITS FALSE NEIGHBOUR: 'it returns false'. Refute it at one input. -/
def registerLetsWrong : ChangeSpec := { name := "registerLets", fn := fun _ => fun
  | [d1, d2] => { results := [.lit (.bool false)], args := [d1, d2] }
  | _ => none }
def RegisterLetsWrongFalsely : Prop := registerLetsRow.holds Try.pinned (OpenSpec.ofChange registerLetsWrong)

/-- 'pluglaw.RegisterLooks': WHATEVER THE INPUT: true; the input reads as it did. -/
def registerLooksSpec : ChangeSpec := { name := "registerLooks", fn := fun _ => fun
  | [d1, d2] => { results := [.lit (.bool true)], args := [d1, d2] }
  | _ => none }
def registerLooksRow : OpenClaim := { program := "ytbeilpecdimheaa", sum := "6cb5b724f576149b4ee18e1d7ed9f67ddf428f5768054627495988a7d3308db6", func := "plugtree/pluglaw.RegisterLooks", spec := "registerLooks", apart := false }
def RegisterLooksSaid : Prop := registerLooksRow.holds Try.pinned (OpenSpec.ofChange registerLooksSpec)

/-- ITS FALSE NEIGHBOUR: 'it returns false'. Refute it at one input. -/
def registerLooksWrong : ChangeSpec := { name := "registerLooks", fn := fun _ => fun
  | [d1, d2] => { results := [.lit (.bool false)], args := [d1, d2] }
  | _ => none }
def RegisterLooksWrongFalsely : Prop := registerLooksRow.holds Try.pinned (OpenSpec.ofChange registerLooksWrong)

/-- 'pluglaw.DescSplits': WHATEVER THE INPUT: true; the input reads as it did. -/
def descSplitsSpec : ChangeSpec := { name := "descSplits", fn := fun _ => fun
  | [d] => { results := [.lit (.bool true)], args := [d] }
  | _ => none }
def descSplitsRow : OpenClaim := { program := "ytbeilpecdimheaa", sum := "6cb5b724f576149b4ee18e1d7ed9f67ddf428f5768054627495988a7d3308db6", func := "plugtree/pluglaw.DescSplits", spec := "descSplits", apart := false }
def DescSplitsSaid : Prop := descSplitsRow.holds Try.pinned (OpenSpec.ofChange descSplitsSpec)

/-- ITS FALSE NEIGHBOUR: 'it returns false'. Refute it at one input. -/
def descSplitsWrong : ChangeSpec := { name := "descSplits", fn := fun _ => fun
  | [d] => { results := [.lit (.bool false)], args := [d] }
  | _ => none }
def DescSplitsWrongFalsely : Prop := descSplitsRow.holds Try.pinned (OpenSpec.ofChange descSplitsWrong)

/-- 'pluglaw.UtfNarrow': WHATEVER THE INPUT: true; the input reads as it did. -/
def utfNarrowSpec : ChangeSpec := { name := "utfNarrow", fn := fun _ => fun
  | [d] => { results := [.lit (.bool true)], args := [d] }
  | _ => none }
def utfNarrowRow : OpenClaim := { program := "ytbeilpecdimheaa", sum := "6cb5b724f576149b4ee18e1d7ed9f67ddf428f5768054627495988a7d3308db6", func := "plugtree/pluglaw.UtfNarrow", spec := "utfNarrow", unfollowed := true, recurses := true, apart := false }
def UtfNarrowSaid : Prop := utfNarrowRow.holds Try.pinned (OpenSpec.ofChange utfNarrowSpec)

/-- ITS FALSE NEIGHBOUR: 'it returns false'. Refute it at one input. -/
def utfNarrowWrong : ChangeSpec := { name := "utfNarrow", fn := fun _ => fun
  | [d] => { results := [.lit (.bool false)], args := [d] }
  | _ => none }
def UtfNarrowWrongFalsely : Prop := utfNarrowRow.holds Try.pinned (OpenSpec.ofChange utfNarrowWrong)

/-- 'pluglaw.UtfWide': WHATEVER THE INPUT: true; the input reads as it did. -/
def utfWideSpec : ChangeSpec := { name := "utfWide", fn := fun _ => fun
  | [d] => { results := [.lit (.bool true)], args := [d] }
  | _ => none }
def utfWideRow : OpenClaim := { program := "ytbeilpecdimheaa", sum := "6cb5b724f576149b4ee18e1d7ed9f67ddf428f5768054627495988a7d3308db6", func := "plugtree/pluglaw.UtfWide", spec := "utfWide", unfollowed := true, recurses := true, apart := false }
def UtfWideSaid : Prop := utfWideRow.holds Try.pinned (OpenSpec.ofChange utfWideSpec)

/-- ITS FALSE NEIGHBOUR: 'it returns false'. Refute it at one input. -/
def utfWideWrong : ChangeSpec := { name := "utfWide", fn := fun _ => fun
  | [d] => { results := [.lit (.bool false)], args := [d] }
  | _ => none }
def UtfWideWrongFalsely : Prop := utfWideRow.holds Try.pinned (OpenSpec.ofChange utfWideWrong)

/-- 'pluglaw.ReportGets': WHATEVER THE INPUT: true; the input reads as it did. -/
def reportGetsSpec : ChangeSpec := { name := "reportGets", fn := fun _ => fun
  | [d1, d2, d3] => { results := [.lit (.bool true)], args := [d1, d2, d3] }
  | _ => none }
def reportGetsRow : OpenClaim := { program := "ytbeilpecdimheaa", sum := "6cb5b724f576149b4ee18e1d7ed9f67ddf428f5768054627495988a7d3308db6", func := "plugtree/pluglaw.ReportGets", spec := "reportGets", inPlace := ["internal/bytealg.IndexByteString"], apart := false }
def ReportGetsSaid : Prop := reportGetsRow.holds Try.pinned (OpenSpec.ofChange reportGetsSpec)

/-- ITS FALSE NEIGHBOUR: 'it returns false'. Refute it at one input. -/
def reportGetsWrong : ChangeSpec := { name := "reportGets", fn := fun _ => fun
  | [d1, d2, d3] => { results := [.lit (.bool false)], args := [d1, d2, d3] }
  | _ => none }
def ReportGetsWrongFalsely : Prop := reportGetsRow.holds Try.pinned (OpenSpec.ofChange reportGetsWrong)

/-- 'pluglaw.PipeSteps': WHATEVER THE INPUT: true; the input reads as it did. -/
def pipeStepsSpec : ChangeSpec := { name := "pipeSteps", fn := fun _ => fun
  | [d1, d2, d3] => { results := [.lit (.bool true)], args := [d1, d2, d3] }
  | _ => none }
def pipeStepsRow : OpenClaim := { program := "ytbeilpecdimheaa", sum := "6cb5b724f576149b4ee18e1d7ed9f67ddf428f5768054627495988a7d3308db6", func := "plugtree/pluglaw.PipeSteps", spec := "pipeSteps", unfollowed := true, recurses := true, apart := false }
def PipeStepsSaid : Prop := pipeStepsRow.holds Try.pinned (OpenSpec.ofChange pipeStepsSpec)

/-- ITS FALSE NEIGHBOUR: 'it returns false'. Refute it at one input. -/
def pipeStepsWrong : ChangeSpec := { name := "pipeSteps", fn := fun _ => fun
  | [d1, d2, d3] => { results := [.lit (.bool false)], args := [d1, d2, d3] }
  | _ => none }
def PipeStepsWrongFalsely : Prop := pipeStepsRow.holds Try.pinned (OpenSpec.ofChange pipeStepsWrong)

/-- 'pluglaw.HubPlugs': WHATEVER THE INPUT: true; the input reads as it did. -/
def hubPlugsSpec : ChangeSpec := { name := "hubPlugs", fn := fun _ => fun
  | [d1, d2, d3] => { results := [.lit (.bool true)], args := [d1, d2, d3] }
  | _ => none }
def hubPlugsRow : OpenClaim := { program := "ytbeilpecdimheaa", sum := "6cb5b724f576149b4ee18e1d7ed9f67ddf428f5768054627495988a7d3308db6", func := "plugtree/pluglaw.HubPlugs", spec := "hubPlugs", unfollowed := true, recurses := true, apart := false }
def HubPlugsSaid : Prop := hubPlugsRow.holds Try.pinned (OpenSpec.ofChange hubPlugsSpec)

/-- ITS FALSE NEIGHBOUR: 'it returns false'. Refute it at one input. -/
def hubPlugsWrong : ChangeSpec := { name := "hubPlugs", fn := fun _ => fun
  | [d1, d2, d3] => { results := [.lit (.bool false)], args := [d1, d2, d3] }
  | _ => none }
def HubPlugsWrongFalsely : Prop := hubPlugsRow.holds Try.pinned (OpenSpec.ofChange hubPlugsWrong)

/-- 'pluglaw.PipeRuns': WHATEVER THE INPUT: true; the input reads as it did. -/
def pipeRunsSpec : ChangeSpec := { name := "pipeRuns", fn := fun _ => fun
  | [d1, d2] => { results := [.lit (.bool true)], args := [d1, d2] }
  | _ => none }
def pipeRunsRow : OpenClaim := { program := "ytbeilpecdimheaa", sum := "6cb5b724f576149b4ee18e1d7ed9f67ddf428f5768054627495988a7d3308db6", func := "plugtree/pluglaw.PipeRuns", spec := "pipeRuns", unfollowed := true, recurses := true, apart := false }
def PipeRunsSaid : Prop := pipeRunsRow.holds Try.pinned (OpenSpec.ofChange pipeRunsSpec)

/-- ITS FALSE NEIGHBOUR: 'it returns false'. Refute it at one input. -/
def pipeRunsWrong : ChangeSpec := { name := "pipeRuns", fn := fun _ => fun
  | [d1, d2] => { results := [.lit (.bool false)], args := [d1, d2] }
  | _ => none }
def PipeRunsWrongFalsely : Prop := pipeRunsRow.holds Try.pinned (OpenSpec.ofChange pipeRunsWrong)

/-- 'pluglaw.DescTexts': WHATEVER THE INPUT: true; the input reads as it did. -/
def descTextsSpec : ChangeSpec := { name := "descTexts", fn := fun _ => fun
  | [d1, d2] => { results := [.lit (.bool true)], args := [d1, d2] }
  | _ => none }
def descTextsRow : OpenClaim := { program := "ytbeilpecdimheaa", sum := "6cb5b724f576149b4ee18e1d7ed9f67ddf428f5768054627495988a7d3308db6", func := "plugtree/pluglaw.DescTexts", spec := "descTexts", unfollowed := true, recurses := true, apart := false }
def DescTextsSaid : Prop := descTextsRow.holds Try.pinned (OpenSpec.ofChange descTextsSpec)

/-- ITS FALSE NEIGHBOUR: 'it returns false'. Refute it at one input. -/
def descTextsWrong : ChangeSpec := { name := "descTexts", fn := fun _ => fun
  | [d1, d2] => { results := [.lit (.bool false)], args := [d1, d2] }
  | _ => none }
def DescTextsWrongFalsely : Prop := descTextsRow.holds Try.pinned (OpenSpec.ofChange descTextsWrong)

/- THE SECOND FORM. 'bulk': how many values and letters a reading holds, each counted each time it is reached (what is shared counts as often as it is met; a slice's spare places count too). A statement '..UptoSaid' is the law's where the arguments, and the package variables that the reading takes, are together of bulk at most 1048576: NARROWER than '..Said'. Prove '..Said' where nothing that the law and all that it calls make is longer than what came in: it says more and counts as full. Else prove '..UptoSaid'. A law counts once. -/
mutual
def uptoBulk {H : Type} : DataW H → Nat
  | .lit (.string bytes) => bytes.length + 1
  | .lit _ => 1
  | .nil => 1
  | .ptr d => uptoBulk d + 1
  | .slice elems spare => uptoBulkAll elems + uptoBulkAll spare + 1
  | .agg parts => uptoBulkAll parts + 1
  | .iface _ d => uptoBulk d + 1
  | .map entries => uptoBulkEntries entries + 1
  | .held _ => 1
def uptoBulkAll {H : Type} : List (DataW H) → Nat
  | [] => 0
  | d :: r => uptoBulk d + uptoBulkAll r
def uptoBulkEntries {H : Type} : List (Lit × DataW H) → Nat
  | [] => 0
  | x :: r => uptoBulkEntry x + uptoBulkEntries r
def uptoBulkEntry {H : Type} : Lit × DataW H → Nat
  | (.string bytes, d) => bytes.length + uptoBulk d + 1
  | (_, d) => uptoBulk d + 1
 end
def uptoSmall : (H : Type) → List (DataW H) → Bool := fun _ ds => decide (uptoBulkAll ds ≤ 1048576)
def OpenSpec.upto (s : _root_.Go.ChangeSpec) : _root_.Go.OpenSpec := { _root_.Go.OpenSpec.ofChange s with cond := some uptoSmall }

/-- 'pluglaw.PacketReads', WHERE WHAT IT READS IS OF BULK AT MOST 1048576: true; the input reads as it did. -/
def packetReadsUptoRow : OpenClaim := { program := "ytbeilpecdimheaa", sum := "6cb5b724f576149b4ee18e1d7ed9f67ddf428f5768054627495988a7d3308db6", func := "plugtree/pluglaw.PacketReads", spec := "packetReads", inPlace := ["internal/bytealg.IndexByteString"], apart := false, narrowed := true }
def PacketReadsUptoSaid : Prop := packetReadsUptoRow.holds Try.pinned (OpenSpec.upto packetReadsSpec)

/-- 'pluglaw.BulkJudges', WHERE WHAT IT READS IS OF BULK AT MOST 1048576: true; the input reads as it did. -/
def bulkJudgesUptoRow : OpenClaim := { program := "ytbeilpecdimheaa", sum := "6cb5b724f576149b4ee18e1d7ed9f67ddf428f5768054627495988a7d3308db6", func := "plugtree/pluglaw.BulkJudges", spec := "bulkJudges", inPlace := ["internal/bytealg.IndexByteString"], apart := false, narrowed := true }
def BulkJudgesUptoSaid : Prop := bulkJudgesUptoRow.holds Try.pinned (OpenSpec.upto bulkJudgesSpec)

/-- 'pluglaw.RegisterLets', WHERE WHAT IT READS IS OF BULK AT MOST 1048576: true; the input reads as it did. -/
def registerLetsUptoRow : OpenClaim := { program := "ytbeilpecdimheaa", sum := "6cb5b724f576149b4ee18e1d7ed9f67ddf428f5768054627495988a7d3308db6", func := "plugtree/pluglaw.RegisterLets", spec := "registerLets", apart := false, narrowed := true }
def RegisterLetsUptoSaid : Prop := registerLetsUptoRow.holds Try.pinned (OpenSpec.upto registerLetsSpec)

/-- 'pluglaw.RegisterLooks', WHERE WHAT IT READS IS OF BULK AT MOST 1048576: true; the input reads as it did. -/
def registerLooksUptoRow : OpenClaim := { program := "ytbeilpecdimheaa", sum := "6cb5b724f576149b4ee18e1d7ed9f67ddf428f5768054627495988a7d3308db6", func := "plugtree/pluglaw.RegisterLooks", spec := "registerLooks", apart := false, narrowed := true }
def RegisterLooksUptoSaid : Prop := registerLooksUptoRow.holds Try.pinned (OpenSpec.upto registerLooksSpec)

/-- 'pluglaw.DescSplits', WHERE WHAT IT READS IS OF BULK AT MOST 1048576: true; the input reads as it did. -/
def descSplitsUptoRow : OpenClaim := { program := "ytbeilpecdimheaa", sum := "6cb5b724f576149b4ee18e1d7ed9f67ddf428f5768054627495988a7d3308db6", func := "plugtree/pluglaw.DescSplits", spec := "descSplits", apart := false, narrowed := true }
def DescSplitsUptoSaid : Prop := descSplitsUptoRow.holds Try.pinned (OpenSpec.upto descSplitsSpec)

/-- 'pluglaw.UtfNarrow', WHERE WHAT IT READS IS OF BULK AT MOST 1048576: true; the input reads as it did. -/
def utfNarrowUptoRow : OpenClaim := { program := "ytbeilpecdimheaa", sum := "6cb5b724f576149b4ee18e1d7ed9f67ddf428f5768054627495988a7d3308db6", func := "plugtree/pluglaw.UtfNarrow", spec := "utfNarrow", unfollowed := true, recurses := true, apart := false, narrowed := true }
def UtfNarrowUptoSaid : Prop := utfNarrowUptoRow.holds Try.pinned (OpenSpec.upto utfNarrowSpec)

/-- 'pluglaw.UtfWide', WHERE WHAT IT READS IS OF BULK AT MOST 1048576: true; the input reads as it did. -/
def utfWideUptoRow : OpenClaim := { program := "ytbeilpecdimheaa", sum := "6cb5b724f576149b4ee18e1d7ed9f67ddf428f5768054627495988a7d3308db6", func := "plugtree/pluglaw.UtfWide", spec := "utfWide", unfollowed := true, recurses := true, apart := false, narrowed := true }
def UtfWideUptoSaid : Prop := utfWideUptoRow.holds Try.pinned (OpenSpec.upto utfWideSpec)

/-- 'pluglaw.ReportGets', WHERE WHAT IT READS IS OF BULK AT MOST 1048576: true; the input reads as it did. -/
def reportGetsUptoRow : OpenClaim := { program := "ytbeilpecdimheaa", sum := "6cb5b724f576149b4ee18e1d7ed9f67ddf428f5768054627495988a7d3308db6", func := "plugtree/pluglaw.ReportGets", spec := "reportGets", inPlace := ["internal/bytealg.IndexByteString"], apart := false, narrowed := true }
def ReportGetsUptoSaid : Prop := reportGetsUptoRow.holds Try.pinned (OpenSpec.upto reportGetsSpec)

/-- 'pluglaw.PipeSteps', WHERE WHAT IT READS IS OF BULK AT MOST 1048576: true; the input reads as it did. -/
def pipeStepsUptoRow : OpenClaim := { program := "ytbeilpecdimheaa", sum := "6cb5b724f576149b4ee18e1d7ed9f67ddf428f5768054627495988a7d3308db6", func := "plugtree/pluglaw.PipeSteps", spec := "pipeSteps", unfollowed := true, recurses := true, apart := false, narrowed := true }
def PipeStepsUptoSaid : Prop := pipeStepsUptoRow.holds Try.pinned (OpenSpec.upto pipeStepsSpec)

/-- 'pluglaw.HubPlugs', WHERE WHAT IT READS IS OF BULK AT MOST 1048576: true; the input reads as it did. -/
def hubPlugsUptoRow : OpenClaim := { program := "ytbeilpecdimheaa", sum := "6cb5b724f576149b4ee18e1d7ed9f67ddf428f5768054627495988a7d3308db6", func := "plugtree/pluglaw.HubPlugs", spec := "hubPlugs", unfollowed := true, recurses := true, apart := false, narrowed := true }
def HubPlugsUptoSaid : Prop := hubPlugsUptoRow.holds Try.pinned (OpenSpec.upto hubPlugsSpec)

/-- 'pluglaw.PipeRuns', WHERE WHAT IT READS IS OF BULK AT MOST 1048576: true; the input reads as it did. -/
def pipeRunsUptoRow : OpenClaim := { program := "ytbeilpecdimheaa", sum := "6cb5b724f576149b4ee18e1d7ed9f67ddf428f5768054627495988a7d3308db6", func := "plugtree/pluglaw.PipeRuns", spec := "pipeRuns", unfollowed := true, recurses := true, apart := false, narrowed := true }
def PipeRunsUptoSaid : Prop := pipeRunsUptoRow.holds Try.pinned (OpenSpec.upto pipeRunsSpec)

/-- 'pluglaw.DescTexts', WHERE WHAT IT READS IS OF BULK AT MOST 1048576: true; the input reads as it did. -/
def descTextsUptoRow : OpenClaim := { program := "ytbeilpecdimheaa", sum := "6cb5b724f576149b4ee18e1d7ed9f67ddf428f5768054627495988a7d3308db6", func := "plugtree/pluglaw.DescTexts", spec := "descTexts", unfollowed := true, recurses := true, apart := false, narrowed := true }
def DescTextsUptoSaid : Prop := descTextsUptoRow.holds Try.pinned (OpenSpec.upto descTextsSpec)

end Rows
end Go.Proofs.Ytbeilpecdimheaa
