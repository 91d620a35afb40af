/- A machine of values, part 35: a text's bytes appended to an own row. -/
import Derived.Test.YtdgdkbpmmemphaaAm27
import Derived.Lib.AppendStr
namespace Go.Proofs.Ytdgdkbpmmemphaa
open Go Go.RowKit
set_option linter.unusedVariables false

theorem TOS.ofEff {P : Program} {w0 : World} {fz0 : Nat → Prop} {st : St} {Q : Exit → Act → World → Prop} {ops : Array Oper} {k : Nat} {o : Oper} {C : Prop} (st' : St) (hok : ops[k]? = some o) (hg : evGuard ops.toList st.1 o = some true) (he : EffOp P o st.1 st.2 st'.1 st'.2 C)
    (hrt : (∀ t r, r ∈ (st.1.getD t .unk).refs → r < st.2.length) → ∀ t r, r ∈ (st'.1.getD t .unk).refs → r < st'.2.length) (hrm : (∀ i r, r ∈ (lk st.2 i).refs → r < st.2.length) → ∀ i r, r ∈ (lk st'.2 i).refs → r < st'.2.length) (hC : C)
    (hn : TOS P w0 fz0 ops (k + 1) st' Q) : TOS P w0 fz0 ops k st Q := by
  intro G a w hs
  have hlt : k < ops.size := (Array.getElem?_eq_some_iff.1 hok).1
  rw [show ops.size - k = (ops.size - (k + 1)) + 1 by omega, List.range'_succ]
  simp only [wpOps, hok]
  rw [evGuard_ok hs.tmps hg]
  simp only [if_true]
  refine .inl ?_
  exact StR.step he hrt hrm hC hs _ Q (fun a' w' G' hs' => hn G' a' w' hs')
end Go.Proofs.Ytdgdkbpmmemphaa
