/- A machine of values, part 34: a row that a call hands back, from the kit's word on it. -/
import Derived.Test.YtgjklpadcmedkaaDoorAm27
namespace Go.Proofs.YtgjklpadcmedkaaDoor
open Go Go.RowKit
set_option linter.unusedVariables false

theorem rowv_new {w w' : World} {fz : Nat → Prop} {T : TypeId} {e : Sh} {l : List e.T} {v : Value} {cs : List Value} (hrow : RowV w.heap.size w' T e.size v l.length cs) (hcat : CatR (ShR w' fz e) l cs) (hb : Below w.heap.size w w') (hfz : ∀ b, fz b → b < w.heap.size) :
    NewR w w' (G0 fz) ((G0 fz).put 0 (sliceAddr v) v) 0 [.row T e l] ∧ ValR w' ((G0 fz).put 0 (sliceAddr v) v) (.row 0) v := by
  have hv : ((G0 fz).put 0 (sliceAddr v) v).rowv 0 = v := rfl
  have ha : ((G0 fz).put 0 (sliceAddr v) v).addr 0 = sliceAddr v := rfl
  have hlive : ∀ j x, (lk [Blk.row T e l] j).live ((G0 fz).put 0 (sliceAddr v) v) (0 + j) = some x → j = 0 ∧ rowBlk v = some x := by
    intro j x h
    cases j with
    | zero => exact ⟨rfl, h⟩
    | succ j => simp [lk, Blk.live] at h
  refine ⟨⟨hb, fun i hi => ?_, fun _ h => h, fun _ h => .inl h, fun j => ?_, fun j k x hjk h1 h2 => ?_, fun j x h => ?_⟩, ?_⟩
  · have : i ≠ 0 := by simp at hi; omega
    exact ⟨by simp [Gh.put, this], by simp [Gh.put, this]⟩
  · cases j with
    | zero =>
      refine ⟨fun g hg => ?_, cs, hrow, hcat⟩
      rw [hv] at hg
      rcases hrow with ⟨_, _, a, rfl⟩ | ⟨g2, cap, rest, rfl, hcap, _⟩
      · cases a <;> simp [rowBlk] at hg
      · cases cap with
        | zero => omega
        | succ c =>
          simp only [rowBlk, Option.some.injEq] at hg
          subst hg
          rfl
    | succ j => trivial
  · obtain ⟨e1, _⟩ := hlive j x h1
    obtain ⟨e2, _⟩ := hlive k x h2
    omega
  · obtain ⟨_, h2⟩ := hlive j x h
    have := hrow.blk h2
    refine ⟨this.1, this.2, fun hf => ?_⟩
    have hf' : fz x := hf
    have := hfz x hf'
    omega
  · exact ⟨by rw [hv], by rw [hv]; exact hrow.one⟩
end Go.Proofs.YtgjklpadcmedkaaDoor
