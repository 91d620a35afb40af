/-
  No cell of these rows narrows 'for every input' (looked for: loops, veiled, ifaces, maps, wideKeys, modest, calm, conditions, laid).
  DERIVED. THE GIVEN ROWS OF THIS SEAT. 5 by the template 'for every input the law returns true; each argument reads behind the call as it read before'; 0 by the template 'total and deterministic' (their statements: YtcdighmioekeiaaTotals.lean).
  GIVEN WITH THE SEED: the statements are not yours to turn. If you find one false, say at which input.
  Laid BY PROGRAM, IN A SANDBOX (cutbox-rows.mjs): the forced cells as the released guide's own fill.sh prints them over the translation 348b154cdc600df9… (all of the seat's roots in one cut). By AI agents, Wed Nov 11 2026. No macro, syntax, notation, axiom, sorry.
-/
import Derived.Test.YtcdighmioekeiaaChecked
import GoSem.Claim
import GoSem.ClaimJoined
import GoSem.ClaimMapViews
import Derived.JoinedTies
import Derived.KernelRfl
namespace Go.Proofs.Ytcdighmioekeiaa
/- THE CELL 'sum', in the pinned program and in every row, IS THE sha256 OF THE DUMP (.gsa) THAT YtcdighmioekeiaaProg.lean LOADS. Nothing in Lean hashes anything: it is a label: what it is worth is what the hold of that sum in a sandbox is worth. -/
noncomputable def Try.pinned : Pinned := { name := "ytcdighmioekeiaa", sum := "348b154cdc600df9441b6abac68be05178153689198065b64d70bd701aa825cd", checked := Try.checked }
namespace Rows
def none {H : Type} : Left H := { results := [], args := [] }

/-- 'pluglaw.UtfWide': WHATEVER THE INPUT: true; the input reads as it did. -/
def utfWideSpec : ChangeSpec := { name := "utfWide", fn := fun _ => fun
  | [d] => { results := [.lit (.bool true)], args := [d] }
  | _ => none }
def utfWideRow : OpenClaim := { program := "ytcdighmioekeiaa", sum := "348b154cdc600df9441b6abac68be05178153689198065b64d70bd701aa825cd", func := "plugtree/pluglaw.UtfWide", spec := "utfWide", unfollowed := true, recurses := true, apart := false }
def UtfWideSaid : Prop := utfWideRow.holds Try.pinned (OpenSpec.ofChange utfWideSpec)

/-- ITS FALSE NEIGHBOUR: 'it returns false'. Refute it at one input. -/
def utfWideWrong : ChangeSpec := { name := "utfWide", fn := fun _ => fun
  | [d] => { results := [.lit (.bool false)], args := [d] }
  | _ => none }
def UtfWideWrongFalsely : Prop := utfWideRow.holds Try.pinned (OpenSpec.ofChange utfWideWrong)

/-- 'pluglaw.UtfNarrow': WHATEVER THE INPUT: true; the input reads as it did. -/
def utfNarrowSpec : ChangeSpec := { name := "utfNarrow", fn := fun _ => fun
  | [d] => { results := [.lit (.bool true)], args := [d] }
  | _ => none }
def utfNarrowRow : OpenClaim := { program := "ytcdighmioekeiaa", sum := "348b154cdc600df9441b6abac68be05178153689198065b64d70bd701aa825cd", func := "plugtree/pluglaw.UtfNarrow", spec := "utfNarrow", unfollowed := true, recurses := true, apart := false }
def UtfNarrowSaid : Prop := utfNarrowRow.holds Try.pinned (OpenSpec.ofChange utfNarrowSpec)

/-- ITS FALSE NEIGHBOUR: 'it returns false'. Refute it at one input. -/
def utfNarrowWrong : ChangeSpec := { name := "utfNarrow", fn := fun _ => fun
  | [d] => { results := [.lit (.bool false)], args := [d] }
  | _ => none }
def UtfNarrowWrongFalsely : Prop := utfNarrowRow.holds Try.pinned (OpenSpec.ofChange utfNarrowWrong)

/-- 'pluglaw.ReportGets': WHATEVER THE INPUT: true; the input reads as it did. -/
def reportGetsSpec : ChangeSpec := { name := "reportGets", fn := fun _ => fun
  | [d1, d2, d3] => { results := [.lit (.bool true)], args := [d1, d2, d3] }
  | _ => none }
def reportGetsRow : OpenClaim := { program := "ytcdighmioekeiaa", sum := "348b154cdc600df9441b6abac68be05178153689198065b64d70bd701aa825cd", func := "plugtree/pluglaw.ReportGets", spec := "reportGets", inPlace := ["internal/bytealg.IndexByteString"], apart := false }
def ReportGetsSaid : Prop := reportGetsRow.holds Try.pinned (OpenSpec.ofChange reportGetsSpec)

/-- ITS FALSE NEIGHBOUR: 'it returns false'. Refute it at one input. -/
def reportGetsWrong : ChangeSpec := { name := "reportGets", fn := fun _ => fun
  | [d1, d2, d3] => { results := [.lit (.bool false)], args := [d1, d2, d3] }
  | _ => none }
def ReportGetsWrongFalsely : Prop := reportGetsRow.holds Try.pinned (OpenSpec.ofChange reportGetsWrong)

/-- 'pluglaw.DescTexts': WHATEVER THE INPUT: true; the input reads as it did. -/
def descTextsSpec : ChangeSpec := { name := "descTexts", fn := fun _ => fun
  | [d1, d2] => { results := [.lit (.bool true)], args := [d1, d2] }
  | _ => none }
def descTextsRow : OpenClaim := { program := "ytcdighmioekeiaa", sum := "348b154cdc600df9441b6abac68be05178153689198065b64d70bd701aa825cd", func := "plugtree/pluglaw.DescTexts", spec := "descTexts", unfollowed := true, recurses := true, apart := false }
def DescTextsSaid : Prop := descTextsRow.holds Try.pinned (OpenSpec.ofChange descTextsSpec)

/-- ITS FALSE NEIGHBOUR: 'it returns false'. Refute it at one input. -/
def descTextsWrong : ChangeSpec := { name := "descTexts", fn := fun _ => fun
  | [d1, d2] => { results := [.lit (.bool false)], args := [d1, d2] }
  | _ => none }
def DescTextsWrongFalsely : Prop := descTextsRow.holds Try.pinned (OpenSpec.ofChange descTextsWrong)

/-- 'pluglaw.KeysReads': WHATEVER THE INPUT: true; the input reads as it did. -/
def keysReadsSpec : ChangeSpec := { name := "keysReads", fn := fun _ => fun
  | [d1, d2] => { results := [.lit (.bool true)], args := [d1, d2] }
  | _ => none }
def keysReadsRow : OpenClaim := { program := "ytcdighmioekeiaa", sum := "348b154cdc600df9441b6abac68be05178153689198065b64d70bd701aa825cd", func := "plugtree/pluglaw.KeysReads", spec := "keysReads", inPlace := ["internal/bytealg.IndexByteString"], unfollowed := true, recurses := true, apart := false }
def KeysReadsSaid : Prop := keysReadsRow.holds Try.pinned (OpenSpec.ofChange keysReadsSpec)

/-- ITS FALSE NEIGHBOUR: 'it returns false'. Refute it at one input. -/
def keysReadsWrong : ChangeSpec := { name := "keysReads", fn := fun _ => fun
  | [d1, d2] => { results := [.lit (.bool false)], args := [d1, d2] }
  | _ => none }
def KeysReadsWrongFalsely : Prop := keysReadsRow.holds Try.pinned (OpenSpec.ofChange keysReadsWrong)

/- THE SECOND FORM. 'bulk': how many values and letters a reading holds, each counted each time it is reached (what is shared counts as often as it is met; a slice's spare places count too). A statement '..UptoSaid' is the law's where the arguments, and the package variables that the reading takes, are together of bulk at most 1048576: NARROWER than '..Said'. Prove '..Said' where nothing that the law and all that it calls make is longer than what came in: it says more and counts as full. Else prove '..UptoSaid'. A law counts once. -/
mutual
def uptoBulk {H : Type} : DataW H → Nat
  | .lit (.string bytes) => bytes.length + 1
  | .lit _ => 1
  | .nil => 1
  | .ptr d => uptoBulk d + 1
  | .slice elems spare => uptoBulkAll elems + uptoBulkAll spare + 1
  | .agg parts => uptoBulkAll parts + 1
  | .iface _ d => uptoBulk d + 1
  | .map entries => uptoBulkEntries entries + 1
  | .held _ => 1
def uptoBulkAll {H : Type} : List (DataW H) → Nat
  | [] => 0
  | d :: r => uptoBulk d + uptoBulkAll r
def uptoBulkEntries {H : Type} : List (Lit × DataW H) → Nat
  | [] => 0
  | x :: r => uptoBulkEntry x + uptoBulkEntries r
def uptoBulkEntry {H : Type} : Lit × DataW H → Nat
  | (.string bytes, d) => bytes.length + uptoBulk d + 1
  | (_, d) => uptoBulk d + 1
 end
def uptoSmall : (H : Type) → List (DataW H) → Bool := fun _ ds => decide (uptoBulkAll ds ≤ 1048576)
def OpenSpec.upto (s : _root_.Go.ChangeSpec) : _root_.Go.OpenSpec := { _root_.Go.OpenSpec.ofChange s with cond := some uptoSmall }

/-- 'pluglaw.UtfWide', WHERE WHAT IT READS IS OF BULK AT MOST 1048576: true; the input reads as it did. -/
def utfWideUptoRow : OpenClaim := { program := "ytcdighmioekeiaa", sum := "348b154cdc600df9441b6abac68be05178153689198065b64d70bd701aa825cd", func := "plugtree/pluglaw.UtfWide", spec := "utfWide", unfollowed := true, recurses := true, apart := false, narrowed := true }
def UtfWideUptoSaid : Prop := utfWideUptoRow.holds Try.pinned (OpenSpec.upto utfWideSpec)

/-- 'pluglaw.UtfNarrow', WHERE WHAT IT READS IS OF BULK AT MOST 1048576: true; the input reads as it did. -/
def utfNarrowUptoRow : OpenClaim := { program := "ytcdighmioekeiaa", sum := "348b154cdc600df9441b6abac68be05178153689198065b64d70bd701aa825cd", func := "plugtree/pluglaw.UtfNarrow", spec := "utfNarrow", unfollowed := true, recurses := true, apart := false, narrowed := true }
def UtfNarrowUptoSaid : Prop := utfNarrowUptoRow.holds Try.pinned (OpenSpec.upto utfNarrowSpec)

/-- 'pluglaw.ReportGets', WHERE WHAT IT READS IS OF BULK AT MOST 1048576: true; the input reads as it did. -/
def reportGetsUptoRow : OpenClaim := { program := "ytcdighmioekeiaa", sum := "348b154cdc600df9441b6abac68be05178153689198065b64d70bd701aa825cd", func := "plugtree/pluglaw.ReportGets", spec := "reportGets", inPlace := ["internal/bytealg.IndexByteString"], apart := false, narrowed := true }
def ReportGetsUptoSaid : Prop := reportGetsUptoRow.holds Try.pinned (OpenSpec.upto reportGetsSpec)

/-- 'pluglaw.DescTexts', WHERE WHAT IT READS IS OF BULK AT MOST 1048576: true; the input reads as it did. -/
def descTextsUptoRow : OpenClaim := { program := "ytcdighmioekeiaa", sum := "348b154cdc600df9441b6abac68be05178153689198065b64d70bd701aa825cd", func := "plugtree/pluglaw.DescTexts", spec := "descTexts", unfollowed := true, recurses := true, apart := false, narrowed := true }
def DescTextsUptoSaid : Prop := descTextsUptoRow.holds Try.pinned (OpenSpec.upto descTextsSpec)

/-- 'pluglaw.KeysReads', WHERE WHAT IT READS IS OF BULK AT MOST 1048576: true; the input reads as it did. -/
def keysReadsUptoRow : OpenClaim := { program := "ytcdighmioekeiaa", sum := "348b154cdc600df9441b6abac68be05178153689198065b64d70bd701aa825cd", func := "plugtree/pluglaw.KeysReads", spec := "keysReads", inPlace := ["internal/bytealg.IndexByteString"], unfollowed := true, recurses := true, apart := false, narrowed := true }
def KeysReadsUptoSaid : Prop := keysReadsUptoRow.holds Try.pinned (OpenSpec.upto keysReadsSpec)

end Rows
end Go.Proofs.Ytcdighmioekeiaa
