/- A machine of values, part 39: 'append' to rows that do not begin where their block begins, or whose last element is no datum; slice literals of one such element; what may be said of a row otherwise. -/
import Derived.Test.YtfcilapoefaanaaAm38
import Derived.Test.YtfcilapoefaanaaAm35
namespace Go.Proofs.Ytfcilapoefaanaa
open Go Go.RowKit
set_option linter.unusedVariables false

def appOFx (P : Program) (ts : List AV) (mem : List Blk) (o : Oper) : Option (AV × List Blk × Prop) :=
  match o.op with
  | .call { callee := .builtin .append, args := args, argTypes := tys } =>
    match args.toList, tys.toList with
    | [s, x], [t, u] =>
      if t = u then
        match P.underlying t, ev ts s, ev ts x with
        | some (.slice el), some (.row r), some ax =>
          match rowD mem r with
          | some (T, ⟨e, l⟩) =>
            if T = el ∧ elemOk P el e = true then
              match newPart mem e ax with
              | some (l', x') => some (.row mem.length, mem.set r .dead ++ [.rowl el e (l ++ l') x'], l.length + (l'.length + lstN x') ≤ capK P el)
              | none => none
            else none
          | none => none
        | _, _, _ => none
      else none
    | _, _ => none
  | _ => none
theorem appOFx_ok {P : Program} {ts : List AV} {mem mem' : List Blk} {o : Oper} {av : AV} {C : Prop} (h : appOFx P ts mem o = some (av, mem', C)) :
    EffOp P o ts mem (tput ts o.dst av) mem' C ∧ mem'.length = mem.length + 1 ∧ av = .row mem.length ∧ ∀ i r, r ∈ (lk mem' i).refs → ∃ j, r ∈ (lk mem j).refs := by
  unfold appOFx at h
  split at h
  · rename_i args tys ho
    split at h
    · rename_i s x t u hargs htys
      split at h
      · rename_i htu
        subst htu
        split at h
        · rename_i el r ax hut hs hx
          split at h
          · rename_i T e l hrd
            split at h
            · rename_i hc
              obtain ⟨rfl, hel⟩ := hc
              split at h
              · rename_i l' x' hnp
                simp only [Option.some.injEq, Prod.mk.injEq] at h
                obtain ⟨rfl, rfl, rfl⟩ := h
                have hput : memPut (mem.set r .dead) mem.length [.rowl T e (l ++ l') x'] = mem.set r .dead ++ [.rowl T e (l ++ l') x'] := by
                  have := memPut_end (mem.set r .dead) [.rowl T e (l ++ l') x']
                  rw [List.length_set] at this
                  exact this
                have k : ∀ (x : Blk) (i : Nat), lk (memPut (mem.set r .dead) mem.length [x]) i = if i = mem.length then x else lk (mem.set r .dead) i := by
                  intro x i
                  rw [lk_memPut]
                  by_cases h : i = mem.length
                  · subst h; rw [if_pos (by simp), if_pos rfl, Nat.sub_self]; rfl
                  · rw [if_neg (by simp; omega), if_neg h]
                have hxr : ∀ q ∈ lstRefs x', ∃ j, q ∈ (lk mem j).refs := by
                  unfold newPart at hnp
                  split at hnp
                  · simp only [Option.some.injEq, Prod.mk.injEq] at hnp
                    obtain ⟨_, rfl⟩ := hnp
                    exact fun q hq => by cases hq
                  · split at hnp
                    · split at hnp
                      · rename_i hlk
                        split at hnp
                        · simp only [Option.some.injEq, Prod.mk.injEq] at hnp
                          obtain ⟨_, rfl⟩ := hnp
                          exact fun q hq => ⟨_, by rw [hlk]; exact hq⟩
                        · cases hnp
                      · cases hnp
                    · cases hnp
                refine ⟨?_, by simp, rfl, fun i q hq => ?_⟩
                rotate_left
                · rw [← hput, k] at hq
                  split at hq
                  · exact hxr q hq
                  · rw [lk_set] at hq
                    split at hq
                    · cases hq
                    · exact ⟨i, hq⟩
                intro B w G a hC hm ht hrt hrm next Q hn
                rw [arr2 hargs, arr2 htys] at ho
                obtain ⟨inf, z, hi, hz, h1, h2, h3, h4⟩ := elemOk_ok hel
                obtain ⟨cs, hrow, hcat, _, hlive, hnd⟩ := rowD_ok hm hrd
                have hrl : r < mem.length := lk_lt hnd
                obtain ⟨e1, _⟩ := (show [a.eval s] = [G.rowv r] ∧ _ from ev_ok ht hs)
                have es : a.eval s = G.rowv r := by simpa using e1
                obtain ⟨c1, c2, hsrc, hcat2, hlst, hone, _⟩ := newPart_ok hm hnp (ev_ok ht hx)
                obtain ⟨v', w', hr, hr1, hr2, hr3, hr4⟩ := run_appO (P := P) (ty := o.type) hut hi hz h1 h2 h3 h4 hrow hsrc hone hC hm.base.1
                obtain ⟨G', g1, g2, g3, g4, g5⟩ := hm.newBlkAt (mem0 := mem.set r .dead) (x := .rowl T e (l ++ l') x') (v' := v') (old := rowBlk (G.rowv r)) mem.length (fun i => by
                    rw [lk_set]; split
                    · exact .inr rfl
                    · exact .inl rfl) (fun i g hg hi => by
                    rw [lk_set] at hi
                    split at hi
                    · cases hi
                    · rename_i hir
                      exact hm.apart i r g (fun e => hir ⟨e, hrl⟩) hi (by rw [hlive]; exact hg)) (fun g hg => (hm.own r g (by rw [hlive]; exact hg)).2.2) (fun i r hr => by have := hrm i r hr; omega) hr2 hr3 hr4 (fun g hg => hr1.blk hg) (fun G' f1 f2 f3 f4 f5 => by
                    refine ⟨⟨by rw [f2, f3]; exact rowAt_self hr1, cs ++ c1, c2, ?_, ?_, ?_⟩, by show rowBlk (G'.rowv mem.length) = _; rw [f2]⟩
                    · rw [f2, List.length_append, Nat.add_assoc, List.append_assoc]; exact hr1
                    · exact CatR.append (CatR.mono (fun y c hy => ShR.keep f5 e y c hy) _ _ hcat) (CatR.mono (fun y c hy => ShR.keep f5 e y c hy) _ _ hcat2)
                    · refine LstR.keep f5 x' c2 (fun q hq => f4 q ?_) hlst
                      obtain ⟨j, hj⟩ := hxr q hq
                      have := hrm j q hj; omega)
                have e2 : (execOp a.eval o).run P w = .ok (.value v') w' := by
                  simp only [execOp, ho, resolve, Sem.run_bind, Sem.run_pure, Result.andThen_ok, invoke, builtin, List.map_toArray, List.map_cons, List.map_nil, es, hr]
                unfold Oper.wp
                rw [e2]
                rw [hput] at g1
                refine hn _ w' G' hr2 ⟨fun b h => by rw [g5]; exact h, fun b h => .inl (by rw [g5] at h; exact h)⟩ g1 ((ht.keep g2 (fun t r hr => g3 r (by have := hrt t r hr; omega))).put _ ?_) (put_defers _ _ _)
                show [v'] = [G'.rowv mem.length] ∧ _
                rw [g4]
                exact ⟨rfl, hr1.one⟩
              · cases h
            · cases h
          · cases h
        · cases h
      · cases h
    · cases h
  · cases h
/-! both, as steps of a walk -/
def oFx (P : Program) (ts : List AV) (mem : List Blk) (o : Oper) : Option (AV × List Blk × Prop) := appOFx P ts mem o
theorem oFx_ok {P : Program} {ts : List AV} {mem mem' : List Blk} {o : Oper} {av : AV} {C : Prop} (h : oFx P ts mem o = some (av, mem', C)) :
    EffOp P o ts mem (tput ts o.dst av) mem' C ∧ mem'.length = mem.length + 1 ∧ av = .row mem.length ∧ ∀ i r, r ∈ (lk mem' i).refs → r < mem.length ∨ ∃ j, r ∈ (lk mem j).refs := by
  obtain ⟨h1, h2, h3, h4⟩ := appOFx_ok h
  exact ⟨h1, h2, h3, fun i r hr => .inr (h4 i r hr)⟩
def oK (P : Program) (ops : Array Oper) (k : Nat) (st : St) : Option (St × Prop) :=
  match ops[k]? with
  | some o =>
    match evGuard ops.toList st.1 o with
    | some true =>
      match oFx P st.1 st.2 o with
      | some (av, mem, C) => some ((tput st.1 o.dst av, mem), C)
      | none => none
    | _ => none
  | none => none
def oSt (P : Program) (ops : Array Oper) (k : Nat) (st : St) : St := match oK P ops k st with | some x => x.1 | none => ([], [])
def oC (P : Program) (ops : Array Oper) (k : Nat) (st : St) : Prop := match oK P ops k st with | some x => x.2 | none => False
theorem TOS.rowO {P : Program} {w0 : World} {fz0 : Nat → Prop} {st : St} {Q : Exit → Act → World → Prop} {ops : Array Oper} {k : Nat} {C : Prop} (hq : C) (h : Go.Proofs.Ytfcilapoefaanaa.oC P ops k st = C) (hn : TOS P w0 fz0 ops (k + 1) (oSt P ops k st) Q) : TOS P w0 fz0 ops k st Q := by
  subst h
  unfold Go.Proofs.Ytfcilapoefaanaa.oC at hq
  unfold oSt at hn
  cases hk : oK P ops k st with
  | none => rw [hk] at hq; exact hq.elim
  | some x =>
    obtain ⟨st', C⟩ := x
    rw [hk] at hq hn
    unfold oK at hk
    split at hk
    · rename_i o hok
      split at hk
      · rename_i hg
        split at hk
        · rename_i av mem C' hfx
          simp only [Option.some.injEq, Prod.mk.injEq] at hk
          obtain ⟨rfl, rfl⟩ := hk
          obtain ⟨h1, h2, h3, h4⟩ := oFx_ok hfx
          refine TOS.ofEff _ hok hg h1 (fun hr => ?_) (fun hr i q hq' => ?_) hq hn
          · rw [h3]
            exact tput_refs hr (by simp only [h2]; omega) (by simp only [h2]; intro r hr'; simp only [AV.refs, List.mem_singleton] at hr'; omega)
          · simp only [h2]
            rcases h4 i q hq' with h | ⟨j, hj⟩
            · omega
            · have := hr j q hj; omega
        · cases hk
      · cases hk
    · cases hk
/-! what may be said of a row otherwise -/
inductive Wo where
  | toO (r : Nat)
  | mkL (r : Nat) (c : AV)
  | setL (r : Nat)
  | own (t : Nat)
def toOSt (r : Nat) (st : St) : St :=
  match lk st.2 r with
  | .row T e l => (st.1, st.2.set r (.rowl T e l none))
  | _ => st
def mkLSt (r : Nat) (c : AV) (st : St) : St :=
  match lk st.2 r with
  | .rowl T e l none => if refsLt st.2.length c = true then (st.1, st.2.set r (.rowl T e l (some (false, c)))) else st
  | _ => st
def setLSt (r : Nat) (st : St) : St :=
  match lk st.2 r with
  | .rowl T e l (some (z, c)) =>
    match AV.toSh e c with
    | some x => (st.1, st.2.set r (.rowl T e (l ++ cond z [x] []) none))
    | none => st
  | _ => st
def ownSt (t : Nat) (st : St) : St :=
  match st.1.getD t .unk with
  | .sub r s lo n =>
    match rowD st.2 r with
    | some (T, ⟨e, l⟩) => if s = e.size then (st.1.set t (.row st.2.length), st.2.set r .dead ++ [.rowl T e ((l.take (lo + n)).drop lo) none]) else st
    | none => st
  | _ => st
def wo1 (k : Wo) (st : St) : St :=
  match k with
  | .toO r => toOSt r st
  | .mkL r c => mkLSt r c st
  | .setL r => setLSt r st
  | .own t => ownSt t st
theorem SubR.own {B : Nat} {w : World} {fz : Nat → Prop} {t : TypeId} {e : Sh} {l : List e.T} {rv v : Value} {lo n : Nat} (hs : SubR e.size lo n rv v) {cs : List Value} (hrow : RowO B w t e.size rv l.length cs) (hcat : CatR (ShR w fz e) l cs) :
    ∃ us, RowO B w t e.size v ((l.take (lo + n)).drop lo).length us ∧ CatR (ShR w fz e) ((l.take (lo + n)).drop lo) us ∧ (∀ g, rowBlk v = some g → rowBlk rv = some g) := by
  obtain ⟨ad, N, cap, a', e1, hN, hcm, rfl, hle, ha⟩ := hs
  have hNl : N = l.length := by
    obtain ⟨a1, c1, e4, _⟩ := hrow.slice
    rw [e1] at e4
    exact (Value.slice.inj e4).2.1
  have hlen : ((l.take (lo + n)).drop lo).length = n := by rw [List.length_drop, List.length_take]; omega
  have hnb : ∀ g, rowBlk (.slice a' n (cap - lo)) = some g → rowBlk rv = some g := by
    intro g hg
    rw [e1]
    rcases Nat.lt_or_ge lo cap with h | h
    · rw [ha h] at hg
      obtain ⟨c, hc⟩ : ∃ c, cap - lo = c + 1 := ⟨cap - lo - 1, by omega⟩
      obtain ⟨d, hd⟩ : ∃ d, cap = d + 1 := ⟨cap - 1, by omega⟩
      rw [hc] at hg
      rw [hd]
      cases ad with
      | none => simp [rowBlk] at hg
      | some b =>
        simp only [Option.map_some, rowBlk, Option.some.injEq] at hg ⊢
        rw [← hg]
        unfold Addr.add
        split <;> rfl
    · rw [show cap - lo = 0 by omega] at hg
      simp [rowBlk] at hg
  obtain ⟨c1, c2, c3, rfl, hl1, hcat2⟩ := CatR.sub (k := e.size) (fun x c hx => ShR.length e x c hx) hcat (lo := lo) (hi := lo + n) (by omega) (by omega)
  have hl2 := CatR.length (fun y c hy => ShR.length e y c hy) _ _ hcat2
  rw [hlen] at hl2
  refine ⟨c2, ?_, hcat2, hnb⟩
  rw [hlen]
  rcases hrow with ⟨hn0, hnil, ax, hval⟩ | ⟨g, pre, cap2, rest, hval, hcap, hBg, ho, h1, h2, h3, h4⟩
  · rw [hval] at e1
    obtain ⟨rfl, rfl, rfl⟩ := Value.slice.inj e1
    obtain rfl : n = 0 := by omega
    refine .inl ⟨rfl, List.length_eq_zero_iff.1 (by omega), a', by simp⟩
  · rw [hval] at e1
    obtain ⟨rfl, rfl, rfl⟩ := Value.slice.inj e1
    rcases Nat.lt_or_ge lo cap2 with hlt | hge
    · have ha' : a' = some ⟨g, (pre ++ c1).length, none⟩ := by rw [ha hlt, Option.map_some, addr_add', List.length_append, hl1]
      rw [ha']
      refine .inr ⟨g, pre ++ c1, cap2 - lo, c3 ++ rest, rfl, by omega, hBg, ?_, by omega, by omega, hl2, ?_⟩
      · obtain ⟨fr, ho, hfr⟩ := ho
        refine ⟨fr, ?_, ?_⟩
        · simpa [List.append_assoc] using ho
        · simpa [List.append_assoc] using hfr
      · rw [Nat.sub_mul]
        simp only [List.length_append] at h4 ⊢
        omega
    · obtain rfl : n = 0 := by omega
      refine .inl ⟨rfl, List.length_eq_zero_iff.1 (by omega), a', by rw [show cap2 - lo = 0 by omega]⟩
theorem wo1_ok {B : Nat} {w0 : World} {fz0 : Nat → Prop} {st : St} {G : Gh} {a : Act} {w : World} (hs : StR B w0 fz0 st.1 st.2 G a w) (k : Wo) : ∃ G', StR B w0 fz0 (wo1 k st).1 (wo1 k st).2 G' a w := by
  cases k with
  | toO r =>
    refine ⟨G, ?_⟩
    simp only [wo1, toOSt]
    split
    · rename_i T e l hlk
      have hb := hs.mem.blk r
      rw [hlk] at hb
      obtain ⟨ha, cs, hrow, hcat⟩ := hb
      refine hs.swapX (x := .rowl T e l none) ⟨hrow.at0 ha, cs, [], ?_, hcat, rfl⟩ (by rw [hlk]; rfl) (fun q hq => by cases hq)
      rw [List.append_nil]; exact hrow.toO
    · exact hs
  | mkL r c =>
    refine ⟨G, ?_⟩
    simp only [wo1, mkLSt]
    split
    · rename_i T e l hlk
      split
      · rename_i hr
        have hb := hs.mem.blk r
        rw [hlk] at hb
        obtain ⟨ha, c1, c2, hrow, hcat, hx⟩ := hb
        obtain rfl : c2 = [] := hx
        exact hs.swapX (x := .rowl T e l (some (false, c))) ⟨ha, c1, [], hrow, hcat, (show LstR w G (some (false, c)) [] from ⟨fun h => (by cases h), fun _ => rfl⟩)⟩ (by rw [hlk]; rfl) (fun q hq => refsLt_ok hr q hq)
      · exact hs
    · exact hs
  | setL r =>
    refine ⟨G, ?_⟩
    simp only [wo1, setLSt]
    split
    · rename_i T e l z c hlk
      split
      · rename_i x hx
        have hb := hs.mem.blk r
        rw [hlk] at hb
        obtain ⟨ha, c1, c2, hrow, hcat, hlst⟩ := hb
        refine hs.swapX (x := .rowl T e (l ++ cond z [x] []) none) ⟨ha, c1 ++ c2, [], ?_, ?_, rfl⟩ (by rw [hlk]; rfl) (fun q hq => by cases hq)
        · rw [List.append_nil, List.length_append]
          have : lstN (some (z, c)) = (cond z [x] []).length := by cases z <;> rfl
          rw [this] at hrow
          exact hrow
        · cases z with
          | true => exact CatR.append hcat (CatR.one (AV.toSh_ok e c x c2 hx (hlst.1 rfl)))
          | false =>
            obtain rfl : c2 = [] := hlst.2 rfl
            exact CatR.append hcat rfl
      · exact hs
    · exact hs
  | own t =>
    simp only [wo1, ownSt]
    split
    · rename_i r s lo n hst
      split
      · rename_i T e l hrd
        split
        · rename_i hse
          subst hse
          obtain ⟨cs, hrow, hcat, _, hlive, hnd⟩ := rowD_ok hs.mem hrd
          have hrl : r < st.2.length := lk_lt hnd
          have hv := hs.tmps.val t
          rw [hst] at hv
          obtain ⟨v, e1, hsub⟩ := (show ∃ v, [a.tmps.getD t undef] = [v] ∧ SubR e.size lo n (G.rowv r) v from hv)
          have ev1 : a.tmps.getD t undef = v := by simpa using e1
          obtain ⟨us, hrow2, hcat2, hnb⟩ := hsub.own hrow hcat
          have hput : memPut (st.2.set r .dead) st.2.length [.rowl T e ((l.take (lo + n)).drop lo) none] = st.2.set r .dead ++ [.rowl T e ((l.take (lo + n)).drop lo) none] := by
            have := memPut_end (st.2.set r .dead) [.rowl T e ((l.take (lo + n)).drop lo) none]
            rw [List.length_set] at this
            exact this
          obtain ⟨G', g1, g2, g3, g4, g5⟩ := hs.mem.newBlkAt (w' := w) (mem0 := st.2.set r .dead) (x := .rowl T e ((l.take (lo + n)).drop lo) none) (v' := v) (old := rowBlk (G.rowv r)) st.2.length (fun i => by
              rw [lk_set]; split
              · exact .inr rfl
              · exact .inl rfl) (fun i g hg hi => by
              rw [lk_set] at hi
              split at hi
              · cases hi
              · rename_i hir
                exact hs.mem.apart i r g (fun e => hir ⟨e, hrl⟩) hi (by rw [hlive]; exact hg)) (fun g hg => (hs.mem.own r g (by rw [hlive]; exact hg)).2.2) (fun i r hr => by have := hs.rm i r hr; omega) (Below.refl _ _) (fun _ _ _ => rfl) (fun g hg => .inl (hnb g hg)) (fun g hg => hrow2.blk hg) (fun G' f1 f2 f3 f4 f5 => by
              refine ⟨⟨by rw [f2, f3]; exact rowAt_self hrow2, us, [], ?_, CatR.mono (fun y c hy => ShR.keep f5 e y c hy) _ _ hcat2, rfl⟩, by show rowBlk (G'.rowv st.2.length) = _; rw [f2]⟩
              rw [f2, List.append_nil]; exact hrow2)
          have hlen : (st.2.set r .dead ++ [Blk.rowl T e ((l.take (lo + n)).drop lo) none]).length = st.2.length + 1 := by simp
          rw [hput] at g1
          refine ⟨G', ⟨fun t' q hq => ?_, fun j q hq => ?_, ⟨by rw [List.length_set]; exact hs.tmps.size, fun t' => ?_⟩, g1, hs.below, hs.defers, by rw [g5]; exact hs.fz1, by rw [g5]; exact hs.fz2⟩⟩
          · rw [hlen]
            rw [getD_set] at hq
            split at hq
            · simp [AV.refs] at hq; omega
            · have := hs.rt t' q hq; omega
          · rw [hlen]
            rw [← hput, lk_memPut] at hq
            split at hq
            · rename_i hj
              have : j - st.2.length = 0 := by simp at hj; omega
              rw [this] at hq; cases hq
            · rw [lk_set] at hq
              split at hq
              · cases hq
              · have := hs.rm j q hq; omega
          · rw [getD_set]
            split
            · rename_i h
              obtain ⟨rfl, _⟩ := h
              rw [ev1]
              show [v] = [G'.rowv st.2.length] ∧ _
              rw [g4]
              exact ⟨rfl, hrow2.one⟩
            · exact ValR.keep g2 _ _ (fun q hq => g3 q (by have := hs.rt t' q hq; omega)) (hs.tmps.val t')
        · exact ⟨G, hs⟩
      · exact ⟨G, hs⟩
    · exact ⟨G, hs⟩
theorem lst_ix {z : Bool} {i : Int} {n : Nat} (h : (z && decide (i = ((n : Nat) : Int))) = true) : z = true ∧ i = ((n : Nat) : Int) := by
  simp only [Bool.and_eq_true, decide_eq_true_eq] at h
  exact h
theorem lst_ok {z : Bool} {i : Int} {n : Nat} (h : (z && decide (i = ((n : Nat) : Int))) = true) (s : Nat) : z = true ∧ i.toNat * s = n * s := by
  obtain ⟨h1, h2⟩ := lst_ix h
  exact ⟨h1, by rw [h2, Int.toNat_natCast]⟩
section
variable {P : Program} {w0 : World} {fz0 : Nat → Prop} {st : St} {Q : Exit → Act → World → Prop} {ops : Array Oper} {k : Nat}
theorem TS.wo {c : Code} (r : Wo) (h : TS P w0 fz0 c (wo1 r st) Q) : TS P w0 fz0 c st Q := by
  intro G a w hs
  obtain ⟨G', hs'⟩ := wo1_ok hs r
  exact h G' a w hs'
theorem XS.wo {e : Exit} (r : Wo) (h : XS P w0 fz0 e (wo1 r st) Q) : XS P w0 fz0 e st Q := by
  intro G a w hs
  obtain ⟨G', hs'⟩ := wo1_ok hs r
  exact h G' a w hs'
theorem TOS.wo (r : Wo) (h : TOS P w0 fz0 ops k (wo1 r st) Q) : TOS P w0 fz0 ops k st Q := by
  intro G a w hs
  obtain ⟨G', hs'⟩ := wo1_ok hs r
  exact h G' a w hs'
end
end Go.Proofs.Ytfcilapoefaanaa
