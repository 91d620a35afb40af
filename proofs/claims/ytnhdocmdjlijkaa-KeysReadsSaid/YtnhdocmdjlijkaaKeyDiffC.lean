/- keys.Diff: the contract, as the machine takes it. -/
import Derived.Test.YtnhdocmdjlijkaaKeyDiff
import Derived.Test.YtnhdocmdjlijkaaAm34
namespace Go.Proofs.Ytnhdocmdjlijkaa
open Go Go.RowKit
set_option linter.unusedVariables false

def diffV (old now : BitsL) : List (Int × Bool) := diff1 old now (codesB old) ++ diff2 old now (codesB now)
theorem arr4 {fz : Nat → Prop} {w : World} {l : List Int} {cs : Array Value} (h : ShR w fz (.arr 4 (.int .u64)) l cs.toList) : ∃ a b c d, l = [a, b, c, d] ∧ cs = #[.int .u64 a, .int .u64 b, .int .u64 c, .int .u64 d] := by
  obtain ⟨hl, hc⟩ := h
  match l, hl with
  | [a, b, c, d], _ =>
    obtain ⟨c1, t1, e1, h1, c2, t2, e2, h2, c3, t3, e3, h3, c4, t4, e4, h4, h5⟩ := hc
    simp only [ShR, CatR] at h1 h2 h3 h4 h5
    subst h1 h2 h3 h4 h5
    refine ⟨a, b, c, d, rfl, ?_⟩
    apply Array.ext'
    rw [e1, e2, e3, e4]; rfl
theorem keyCat {w : World} {fz : Nat → Prop} : ∀ l : List (Int × Bool), CatR (ShR w fz (.st (.pair (.int .i64) .bool))) l (keyCs l)
  | [] => rfl
  | (a, b) :: l => ⟨[.int .i64 a, .bool b], keyCs l, rfl, ⟨[_], [_], rfl, rfl, rfl⟩, keyCat l⟩
theorem diff_ok (old now : BitsL) : PureC Try.prog 19 [.st (.arr 4 (.int .u64) old), .st (.arr 4 (.int .u64) now)] (.row 0) [.row 36 (.st (.pair (.int .i64) .bool)) (diffV old now)] := by
  intro w fz vs hfz ha
  obtain ⟨v1, t1, rfl, ⟨c1, rfl, h2⟩, v2, t2, rfl, ⟨c2, rfl, h3⟩, h4⟩ := ha
  simp only [ArgsR] at h4
  subst h4
  obtain ⟨a0, a1, a2, a3, rfl, rfl⟩ := arr4 h2
  obtain ⟨b0, b1, b2, b3, rfl, rfl⟩ := arr4 h3
  refine (diff_calls a0 a1 a2 a3 b0 b1 b2 b3 w).mono ?_
  rintro e W' ⟨v, rfl, hown, hb⟩
  obtain ⟨h5, h6⟩ := rowv_new (fz := fz) (e := .st (.pair (.int .i64) .bool)) (l := diffV [a0, a1, a2, a3] [b0, b1, b2, b3]) (RowV.ofOwns hown) (keyCat _) hb hfz.1
  exact ⟨v, _, rfl, h5, h6⟩
end Go.Proofs.Ytnhdocmdjlijkaa
