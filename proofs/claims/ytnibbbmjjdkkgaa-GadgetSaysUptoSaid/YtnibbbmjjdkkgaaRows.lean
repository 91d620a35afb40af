/-
  No cell of these rows narrows 'for every input' (looked for: loops, veiled, ifaces, maps, wideKeys, modest, calm, conditions, laid).
  DERIVED. THE GIVEN ROWS OF THIS SEAT. 4 by the template 'for every input the law returns true; each argument reads behind the call as it read before'; 0 by the template 'total and deterministic' (their statements: YtnibbbmjjdkkgaaTotals.lean).
  GIVEN WITH THE SEED: the statements are not yours to turn. If you find one false, say at which input.
  Laid BY PROGRAM, IN A SANDBOX (cutbox-rows.mjs): the forced cells as the released guide's own fill.sh prints them over the translation ea3b6bb7dd6ee482… (all of the seat's roots in one cut). By AI agents, Wed Nov 11 2026. No macro, syntax, notation, axiom, sorry.
-/
import Derived.Test.YtnibbbmjjdkkgaaChecked
import GoSem.Claim
import GoSem.ClaimJoined
import GoSem.ClaimMapViews
import Derived.JoinedTies
import Derived.KernelRfl
namespace Go.Proofs.Ytnibbbmjjdkkgaa
/- THE CELL 'sum', in the pinned program and in every row, IS THE sha256 OF THE DUMP (.gsa) THAT YtnibbbmjjdkkgaaProg.lean LOADS. Nothing in Lean hashes anything: it is a label: what it is worth is what the hold of that sum in a sandbox is worth. -/
noncomputable def Try.pinned : Pinned := { name := "ytnibbbmjjdkkgaa", sum := "ea3b6bb7dd6ee48256331949b27cfe76bae617eb348de04d92fdc13c4bfdf1a4", checked := Try.checked }
namespace Rows
def none {H : Type} : Left H := { results := [], args := [] }

/-- 'pluglaw.DescWrites': WHATEVER THE INPUT: true; the input reads as it did. -/
def descWritesSpec : ChangeSpec := { name := "descWrites", fn := fun _ => fun
  | [d] => { results := [.lit (.bool true)], args := [d] }
  | _ => none }
def descWritesRow : OpenClaim := { program := "ytnibbbmjjdkkgaa", sum := "ea3b6bb7dd6ee48256331949b27cfe76bae617eb348de04d92fdc13c4bfdf1a4", func := "plugtree/pluglaw.DescWrites", spec := "descWrites", inPlace := ["internal/abi.NoEscape", "internal/bytealg.MakeNoZero"], plainKeys := false, apart := false }
def DescWritesSaid : Prop := descWritesRow.holds Try.pinned (OpenSpec.ofChange descWritesSpec)

/-- ITS FALSE NEIGHBOUR: 'it returns false'. Refute it at one input. -/
def descWritesWrong : ChangeSpec := { name := "descWrites", fn := fun _ => fun
  | [d] => { results := [.lit (.bool false)], args := [d] }
  | _ => none }
def DescWritesWrongFalsely : Prop := descWritesRow.holds Try.pinned (OpenSpec.ofChange descWritesWrong)

/-- 'pluglaw.DescReads': WHATEVER THE INPUT: true; the input reads as it did. -/
def descReadsSpec : ChangeSpec := { name := "descReads", fn := fun _ => fun
  | [d] => { results := [.lit (.bool true)], args := [d] }
  | _ => none }
def descReadsRow : OpenClaim := { program := "ytnibbbmjjdkkgaa", sum := "ea3b6bb7dd6ee48256331949b27cfe76bae617eb348de04d92fdc13c4bfdf1a4", func := "plugtree/pluglaw.DescReads", spec := "descReads", inPlace := ["internal/abi.NoEscape", "internal/bytealg.MakeNoZero"], unfollowed := true, recurses := true, plainKeys := false, apart := false }
def DescReadsSaid : Prop := descReadsRow.holds Try.pinned (OpenSpec.ofChange descReadsSpec)

/-- ITS FALSE NEIGHBOUR: 'it returns false'. Refute it at one input. -/
def descReadsWrong : ChangeSpec := { name := "descReads", fn := fun _ => fun
  | [d] => { results := [.lit (.bool false)], args := [d] }
  | _ => none }
def DescReadsWrongFalsely : Prop := descReadsRow.holds Try.pinned (OpenSpec.ofChange descReadsWrong)

/-- 'pluglaw.GadgetChecks': WHATEVER THE INPUT: true; the input reads as it did. -/
def gadgetChecksSpec : ChangeSpec := { name := "gadgetChecks", fn := fun _ => fun
  | [d] => { results := [.lit (.bool true)], args := [d] }
  | _ => none }
def gadgetChecksRow : OpenClaim := { program := "ytnibbbmjjdkkgaa", sum := "ea3b6bb7dd6ee48256331949b27cfe76bae617eb348de04d92fdc13c4bfdf1a4", func := "plugtree/pluglaw.GadgetChecks", spec := "gadgetChecks", inPlace := ["internal/abi.NoEscape", "internal/bytealg.MakeNoZero"], unfollowed := true, recurses := true, plainKeys := false, apart := false }
def GadgetChecksSaid : Prop := gadgetChecksRow.holds Try.pinned (OpenSpec.ofChange gadgetChecksSpec)

/-- ITS FALSE NEIGHBOUR: 'it returns false'. Refute it at one input. -/
def gadgetChecksWrong : ChangeSpec := { name := "gadgetChecks", fn := fun _ => fun
  | [d] => { results := [.lit (.bool false)], args := [d] }
  | _ => none }
def GadgetChecksWrongFalsely : Prop := gadgetChecksRow.holds Try.pinned (OpenSpec.ofChange gadgetChecksWrong)

/-- 'pluglaw.GadgetSays': WHATEVER THE INPUT: true; the input reads as it did. -/
def gadgetSaysSpec : ChangeSpec := { name := "gadgetSays", fn := fun _ => fun
  | [d1, d2, d3] => { results := [.lit (.bool true)], args := [d1, d2, d3] }
  | _ => none }
def gadgetSaysRow : OpenClaim := { program := "ytnibbbmjjdkkgaa", sum := "ea3b6bb7dd6ee48256331949b27cfe76bae617eb348de04d92fdc13c4bfdf1a4", func := "plugtree/pluglaw.GadgetSays", spec := "gadgetSays", inPlace := ["internal/abi.NoEscape", "internal/bytealg.MakeNoZero"], unfollowed := true, recurses := true, plainKeys := false, apart := false }
def GadgetSaysSaid : Prop := gadgetSaysRow.holds Try.pinned (OpenSpec.ofChange gadgetSaysSpec)

/-- ITS FALSE NEIGHBOUR: 'it returns false'. Refute it at one input. -/
def gadgetSaysWrong : ChangeSpec := { name := "gadgetSays", fn := fun _ => fun
  | [d1, d2, d3] => { results := [.lit (.bool false)], args := [d1, d2, d3] }
  | _ => none }
def GadgetSaysWrongFalsely : Prop := gadgetSaysRow.holds Try.pinned (OpenSpec.ofChange gadgetSaysWrong)

/- THE SECOND FORM. 'bulk': how many values and letters a reading holds, each counted each time it is reached (what is shared counts as often as it is met; a slice's spare places count too). A statement '..UptoSaid' is the law's where the arguments, and the package variables that the reading takes, are together of bulk at most 1048576: NARROWER than '..Said'. Prove '..Said' where nothing that the law and all that it calls make is longer than what came in: it says more and counts as full. Else prove '..UptoSaid'. A law counts once. -/
mutual
def uptoBulk {H : Type} : DataW H → Nat
  | .lit (.string bytes) => bytes.length + 1
  | .lit _ => 1
  | .nil => 1
  | .ptr d => uptoBulk d + 1
  | .slice elems spare => uptoBulkAll elems + uptoBulkAll spare + 1
  | .agg parts => uptoBulkAll parts + 1
  | .iface _ d => uptoBulk d + 1
  | .map entries => uptoBulkEntries entries + 1
  | .held _ => 1
def uptoBulkAll {H : Type} : List (DataW H) → Nat
  | [] => 0
  | d :: r => uptoBulk d + uptoBulkAll r
def uptoBulkEntries {H : Type} : List (Lit × DataW H) → Nat
  | [] => 0
  | x :: r => uptoBulkEntry x + uptoBulkEntries r
def uptoBulkEntry {H : Type} : Lit × DataW H → Nat
  | (.string bytes, d) => bytes.length + uptoBulk d + 1
  | (_, d) => uptoBulk d + 1
 end
def uptoSmall : (H : Type) → List (DataW H) → Bool := fun _ ds => decide (uptoBulkAll ds ≤ 1048576)
def OpenSpec.upto (s : _root_.Go.ChangeSpec) : _root_.Go.OpenSpec := { _root_.Go.OpenSpec.ofChange s with cond := some uptoSmall }

/-- 'pluglaw.DescWrites', WHERE WHAT IT READS IS OF BULK AT MOST 1048576: true; the input reads as it did. -/
def descWritesUptoRow : OpenClaim := { program := "ytnibbbmjjdkkgaa", sum := "ea3b6bb7dd6ee48256331949b27cfe76bae617eb348de04d92fdc13c4bfdf1a4", func := "plugtree/pluglaw.DescWrites", spec := "descWrites", inPlace := ["internal/abi.NoEscape", "internal/bytealg.MakeNoZero"], plainKeys := false, apart := false, narrowed := true }
def DescWritesUptoSaid : Prop := descWritesUptoRow.holds Try.pinned (OpenSpec.upto descWritesSpec)

/-- 'pluglaw.DescReads', WHERE WHAT IT READS IS OF BULK AT MOST 1048576: true; the input reads as it did. -/
def descReadsUptoRow : OpenClaim := { program := "ytnibbbmjjdkkgaa", sum := "ea3b6bb7dd6ee48256331949b27cfe76bae617eb348de04d92fdc13c4bfdf1a4", func := "plugtree/pluglaw.DescReads", spec := "descReads", inPlace := ["internal/abi.NoEscape", "internal/bytealg.MakeNoZero"], unfollowed := true, recurses := true, plainKeys := false, apart := false, narrowed := true }
def DescReadsUptoSaid : Prop := descReadsUptoRow.holds Try.pinned (OpenSpec.upto descReadsSpec)

/-- 'pluglaw.GadgetChecks', WHERE WHAT IT READS IS OF BULK AT MOST 1048576: true; the input reads as it did. -/
def gadgetChecksUptoRow : OpenClaim := { program := "ytnibbbmjjdkkgaa", sum := "ea3b6bb7dd6ee48256331949b27cfe76bae617eb348de04d92fdc13c4bfdf1a4", func := "plugtree/pluglaw.GadgetChecks", spec := "gadgetChecks", inPlace := ["internal/abi.NoEscape", "internal/bytealg.MakeNoZero"], unfollowed := true, recurses := true, plainKeys := false, apart := false, narrowed := true }
def GadgetChecksUptoSaid : Prop := gadgetChecksUptoRow.holds Try.pinned (OpenSpec.upto gadgetChecksSpec)

/-- 'pluglaw.GadgetSays', WHERE WHAT IT READS IS OF BULK AT MOST 1048576: true; the input reads as it did. -/
def gadgetSaysUptoRow : OpenClaim := { program := "ytnibbbmjjdkkgaa", sum := "ea3b6bb7dd6ee48256331949b27cfe76bae617eb348de04d92fdc13c4bfdf1a4", func := "plugtree/pluglaw.GadgetSays", spec := "gadgetSays", inPlace := ["internal/abi.NoEscape", "internal/bytealg.MakeNoZero"], unfollowed := true, recurses := true, plainKeys := false, apart := false, narrowed := true }
def GadgetSaysUptoSaid : Prop := gadgetSaysUptoRow.holds Try.pinned (OpenSpec.upto gadgetSaysSpec)

end Rows
end Go.Proofs.Ytnibbbmjjdkkgaa
