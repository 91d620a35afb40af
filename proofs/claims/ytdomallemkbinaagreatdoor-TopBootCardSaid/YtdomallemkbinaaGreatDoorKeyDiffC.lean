/- keys.Diff: the contract, as the machine takes it. -/
import Derived.Test.YtdomallemkbinaaGreatDoorKeyDiff
import Derived.Test.YtdomallemkbinaaGreatDoorAm34
namespace Go.Proofs.YtdomallemkbinaaGreatDoor
open Go Go.RowKit
set_option linter.unusedVariables false

theorem arr4 {fz : Nat → Prop} {w : World} {l : List Int} {cs : Array Value} (h : ShR w fz (.arr 4 (.int .u64)) l cs.toList) : ∃ a b c d, l = [a, b, c, d] ∧ cs = #[.int .u64 a, .int .u64 b, .int .u64 c, .int .u64 d] := by
  obtain ⟨hl, hc⟩ := h
  match l, hl with
  | [a, b, c, d], _ =>
    obtain ⟨c1, t1, e1, h1, c2, t2, e2, h2, c3, t3, e3, h3, c4, t4, e4, h4, h5⟩ := hc
    simp only [ShR, CatR] at h1 h2 h3 h4 h5
    subst h1 h2 h3 h4 h5
    refine ⟨a, b, c, d, rfl, ?_⟩
    apply Array.ext'
    rw [e1, e2, e3, e4]; rfl
end Go.Proofs.YtdomallemkbinaaGreatDoor
