/- A machine of values, part 31: (*strings.Builder).String, called on a builder of the call's own: its row is given up. -/
import Derived.Test.YtbpjinefbnlenaaGreatDoorAm25
import Derived.Lib.UnsafeStr
namespace Go.Proofs.YtbpjinefbnlenaaGreatDoor
open Go Go.RowKit
set_option linter.unusedVariables false

def bstrK (P : Program) (ops : Array Oper) (k f U : Nat) (st : St) : Option St :=
  match ops[k]? with
  | some o =>
    match evGuard ops.toList st.1 o, o.op with
    | some true, .call { callee := .value x, args := args, argTypes := _ } =>
      match args.toList, ev st.1 x with
      | [y], some (.fn g .nil) =>
        match ev st.1 y with
        | some (.ptr b []) =>
          match lk st.2 b with
          | .box _ c =>
            match bufAt c with
            | some r =>
              match lk st.2 r with
              | .bbuf T (.int .u8) l => if g = f ∧ T = U then some (tput st.1 o.dst (.str (strOf l)), st.2.set r .dead) else none
              | _ => none
            | none => none
          | _ => none
        | _ => none
      | _, _ => none
    | _, _ => none
  | none => none
theorem TOS.bstr {P : Program} {w0 : World} {fz0 : Nat → Prop} {st : St} {Q : Exit → Act → World → Prop} {ops : Array Oper} {k : Nat} (f U : Nat) (st' : St) (hw : BStr P f U) (h : bstrK P ops k f U st = some st') (hn : TOS P w0 fz0 ops (k + 1) st' Q) : TOS P w0 fz0 ops k st Q := by
  obtain ⟨hcall, hcU, sl, pt, it, ty, hpt, hwalk⟩ := hw
  intro G a w hs
  unfold bstrK at h
  split at h
  · rename_i o hok
    split at h
    · rename_i x args tys hg ho
      split at h
      · rename_i y g hargs hx
        split at h
        · rename_i b hy
          split at h
          · rename_i Tb c hlb
            split at h
            · rename_i r hbuf
              split at h
              · rename_i T l hlr
                split at h
                · rename_i hcond
                  obtain ⟨rfl, rfl⟩ := hcond
                  simp only [Option.some.injEq] at h
                  subst h
                  have hlt : k < ops.size := (Array.getElem?_eq_some_iff.1 hok).1
                  rw [show ops.size - k = (ops.size - (k + 1)) + 1 by omega, List.range'_succ]
                  simp only [wpOps, hok]
                  rw [evGuard_ok hs.tmps hg]
                  simp only [if_true]
                  refine .inl ?_
                  -- the box
                  obtain ⟨c0, rfl, hc0⟩ : ∃ c0, c = .st (.cons c0 (.row r)) ∧ c0.size = 1 := by
                    unfold bufAt at hbuf
                    split at hbuf
                    · rename_i c0 r'
                      split at hbuf
                      · rename_i hz
                        simp only [Option.some.injEq] at hbuf
                        subst hbuf
                        exact ⟨c0, rfl, hz⟩
                      · cases hbuf
                    · cases hbuf
                  have hbx := hs.mem.blk b
                  rw [hlb] at hbx
                  obtain ⟨hoff, cs, hown, c1, c2, rfl, hc1, hc2, _⟩ := hbx
                  have hc1l := CellsR.length _ _ hc1
                  rw [hc0] at hc1l
                  subst hc2
                  have hcell : w.cell? ⟨(G.addr b).block, 1, none⟩ = some (G.rowv r) := hown.cell (by rw [List.getElem?_append_right (by omega), hc1l]; rfl)
                  -- the row
                  have hbr := hs.mem.blk r
                  rw [hlr] at hbr
                  obtain ⟨⟨hga, cs2, hrow, hcat⟩, htight⟩ := hbr
                  have hlive : (lk st.2 r).live G r = rowBlk (G.rowv r) := by rw [hlr]; rfl
                  -- the pointer
                  have hp : a.eval y = .pointer (some ⟨(G.addr b).block, 0, none⟩) := by
                    have e1 : [a.eval y] = [Value.pointer (some ⟨(G.addr b).block, (G.addr b).off + offs [], none⟩)] := ev_ok hs.tmps hy
                    rw [hoff] at e1
                    simpa [offs] using e1
                  obtain ⟨vs, e1, hcv⟩ := (show ∃ vs : List Value, [a.eval x] = [Value.func (.func g) #[] vs.toArray] ∧ CellsR w G .nil vs from ev_ok hs.tmps hx)
                  obtain rfl : vs = [] := hcv
                  have ef : a.eval x = .func (.func g) #[] #[] := by simpa using e1
                  have hrun : (execOp a.eval o).run P w = .ok (.enter g #[.pointer (some ⟨(G.addr b).block, 0, none⟩)]) w := by
                    have e2 : args = #[y] := by apply Array.ext'; simpa using hargs
                    subst e2
                    simp only [execOp, ho, resolve, ef, Deferred.ofValue, Sem.run_bind, Sem.run_pure, Result.andThen_ok, invoke]
                    rw [run_callFunc hcall]
                    simp [hp]
                  have fin : ∀ w1 : World, Below w0.drawn w w1 → (∀ x, rowBlk (G.rowv r) ≠ some x → w1.heap[x]? = w.heap[x]?) →
                      wpOps P ops Q (List.range' (k + 1) (ops.size - (k + 1))) (a.put o.dst (.string ⟨(strOf l).toArray⟩)) w1 := by
                    intro w1 hb1 hx1
                    obtain ⟨hm1, hk1⟩ := hs.mem.kill (r := r) hb1 (fun x hx => hx1 x (by rw [← hlive]; exact hx))
                    refine hn G _ w1 ⟨fun t q hq => ?_, fun i q hq => ?_, (hs.tmps.keep hk1 (fun _ _ _ => ⟨rfl, rfl⟩)).put _ rfl, hm1, hs.below.trans hb1, by rw [put_defers]; exact hs.defers, hs.fz1, hs.fz2.1, fun b h hlt => (hk1.block b (hs.fz1 b h) (Nat.lt_of_lt_of_le hlt hs.below.size)).trans (hs.fz2.2 b h hlt)⟩
                    · rw [List.length_set]; exact tput_refs hs.rt (Nat.le_refl _) (by simp [AV.refs]) t q hq
                    · rw [List.length_set]
                      rw [lk_set] at hq
                      split at hq
                      · cases hq
                      · exact hs.rm i q hq
                  unfold Oper.wp
                  rw [hrun]
                  have use : ∀ (n cap : Nat) (ad p : Option Addr) (w1 : World), G.rowv r = .slice ad n cap → (Builtin.unsafeSliceData_ #[sl] pt #[.slice ad n cap]).run P w.drew = .ok (.pointer p) w.drew →
                      (Builtin.unsafeString_ #[pt, it] ty #[.pointer p, .int .i64 n]).run P w.drew = .ok (.string ⟨(strOf l).toArray⟩) w1 → Below w0.drawn w w1 → (∀ x, rowBlk (G.rowv r) ≠ some x → w1.heap[x]? = w.heap[x]?) →
                      Calls P g #[.pointer (some ⟨(G.addr b).block, 0, none⟩)] w (fun e w' => ∃ v, e = .returned v ∧ wpOps P ops Q (List.range' (k + 1) (ops.size - (k + 1))) (a.put o.dst v) w') := by
                    intro n cap ad p w1 hv hsd hus hb1 hx1
                    refine (hwalk _ n cap ad p _ w w1 (by rw [← hv]; exact hcell) hsd hus).mono ?_
                    rintro e w' ⟨rfl, rfl⟩
                    exact ⟨_, rfl, fin _ hb1 hx1⟩
                  have bd : Below w0.drawn w w.drew := Below.drew (Below.refl _ _)
                  have hl0 : ∀ l : List Int, l = [] → (ByteArray.empty : ByteArray) = ⟨(strOf l).toArray⟩ := by intro l h; subst h; rfl
                  refine Calls.mono (R := fun e w' => ∃ v, e = .returned v ∧ wpOps P ops Q (List.range' (k + 1) (ops.size - (k + 1))) (a.put o.dst v) w') ?_ (fun e w' h => ?_)
                  · rcases hrow with ⟨hn0, _, ad, hv⟩ | ⟨g2, cap, rest, hv, hcap, hBg, ho2, h1, h2, h3, h4⟩
                    · have hl := List.length_eq_zero_iff.1 hn0
                      cases ad with
                      | some q => exact absurd hv (htight q 0)
                      | none =>
                        refine use 0 0 none none w.drew hv (Lib.run_unsafeSliceData_nil w.drew _ _ 0 0) ?_ bd (fun x _ => rfl)
                        rw [← hl0 l hl]
                        exact Lib.run_unsafeString_none w.drew _ _ _ _
                    · have hsd := Lib.run_unsafeSliceData_row (P := P) w.drew #[sl] pt ⟨g2, 0, none⟩ l.length cap (by omega)
                      by_cases hl : l = []
                      · refine use l.length cap _ _ w.drew hv hsd ?_ bd (fun x _ => rfl)
                        rw [← hl0 l hl, hl]
                        exact Lib.run_unsafeString_none w.drew _ _ _ _
                      · have hcs : ∀ (j : Nat) (z : Int), l[j]? = some z → cs2[j]? = some (Value.int .u8 z) := by
                          intro j z hj
                          obtain ⟨A, C, D, e1, e2, e3, _⟩ := CatR.at (k := 1) (fun y c hy => ShR.length (.int .u8) y c hy) hcat hj
                          obtain rfl : C = [.int .u8 z] := e3
                          rw [Nat.mul_one] at e2
                          rw [e1, List.append_assoc, List.getElem?_append_right (by omega), e2, Nat.sub_self]; rfl
                        have hz : (Sh.int IntKind.u8).size = 1 := rfl
                        rw [hz, Nat.mul_one] at h3 h4
                        obtain ⟨fr, ho3, hfr⟩ := ho2
                        have hg2 : w.drew.heap[g2]? = some (.cells (cs2 ++ rest).toArray T fr) := ho3
                        have hsh : w.drew.shape? g2 = some (T, (cs2 ++ rest).length) := by simp [World.shape?, hg2]
                        have hus := run_unsafeStringI (P := P) w.drew pt it ty T hpt hcU g2 _ hsh l hl (by rw [h4]; exact h1) (by unfold maxLen at h2; omega) (fun j z hj => by
                          rw [addr_add', Nat.zero_add]
                          have hj2 := hcs j z hj
                          have hlt2 : j < cs2.length := (List.getElem?_eq_some_iff.1 hj2).1
                          exact OwnAt.cell (w := w.drew) ⟨fr, hg2, hfr⟩ hj2)
                        refine use l.length cap _ _ _ hv hsd hus (Lib.below_freeze bd (p := ⟨g2, 0, none⟩) hBg _) (fun x hx => ?_)
                        have hne : g2 ≠ x := fun e => hx (by
                          rw [hv, e]
                          cases cap with
                          | zero => omega
                          | succ c => rfl)
                        have hl2 : l.length ≠ 0 := by simpa using hl
                        simp only [World.freeze, if_neg hl2, Array.getElem?_modify, if_neg hne]
                        rfl
                  · obtain ⟨v, rfl, h⟩ := h
                    exact h
                · cases h
              · cases h
            · cases h
          · cases h
        · cases h
      · cases h
    · cases h
  · cases h
end Go.Proofs.YtbpjinefbnlenaaGreatDoor
