/- A machine of values, part 38: an own block, seen otherwise, in a state. -/
import Derived.Test.YtfcilapoefaanaaAm34
namespace Go.Proofs.Ytfcilapoefaanaa
open Go Go.RowKit
set_option linter.unusedVariables false

theorem StR.swapX {B : Nat} {w0 : World} {fz0 : Nat → Prop} {st : St} {G : Gh} {a : Act} {w : World} (hs : StR B w0 fz0 st.1 st.2 G a w) {r : Nat} {x : Blk} (h : BlkR B w G r x) (hl : x.live G r = (lk st.2 r).live G r) (hr : ∀ q ∈ x.refs, q < st.2.length) : StR B w0 fz0 st.1 (st.2.set r x) G a w := by
  refine ⟨fun t q hq => by rw [List.length_set]; exact hs.rt t q hq, fun j q hq => ?_, hs.tmps, hs.mem.swapX h hl, hs.below, hs.defers, hs.fz1, hs.fz2⟩
  rw [List.length_set]
  rw [lk_set] at hq
  split at hq
  · exact hr q hq
  · exact hs.rm j q hq
end Go.Proofs.Ytfcilapoefaanaa
