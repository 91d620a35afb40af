/- A machine of values, part 33: parts of own rows beyond a part's length; 'append' in place, where a row's own elements give the room. -/
import Derived.Test.YtekmnhplhoejdaaDoorAm27
namespace Go.Proofs.YtekmnhplhoejdaaDoor
open Go Go.RowKit
set_option linter.unusedVariables false

def farSlice (P : Program) (mem : List Blk) (t : TypeId) (x : AV) (lo hi : Int) : Option (Nat × Blk × AV × Prop) :=
  match x, P.underlying t with
  | .sub r size s n, some (.slice el) =>
    match lk mem r, P.info? el with
    | .row T e l, some inf => if size = e.size ∧ inf.size = e.size then some (r, .row T e l, .sub r size (s + lo.toNat) (hi.toNat - lo.toNat), 0 ≤ lo ∧ lo ≤ hi ∧ (s : Int) + hi ≤ l.length) else none
    | _, _ => none
  | _, _ => none
def appIn (P : Program) (mem : List Blk) (t : TypeId) (d x : AV) : Option (Nat × Blk × AV × Prop) :=
  match d, P.underlying t with
  | .sub r size lo n, some (.slice el) =>
    match lk mem r, P.info? el with
    | .row T e l, some inf =>
      match srcL mem e x with
      | some l' => if size = e.size ∧ inf.size = e.size ∧ 0 < e.size then some (r, .row T e (splice l (lo + n) l'), .sub r size lo (n + l'.length), lo + n + l'.length ≤ l.length) else none
      | none => none
    | _, _ => none
  | _, _ => none
def farFx (P : Program) (ts : List AV) (mem : List Blk) (o : Oper) : Option (Nat × Blk × AV × Prop) :=
  match o.op with
  | .slice t x (some lo) (some hi) none =>
    match ev ts x, ev ts lo, ev ts hi with
    | some a, some (.int _ i), some (.int _ j) => farSlice P mem t a i j
    | _, _, _ => none
  | .call { callee := .builtin .append, args := args, argTypes := tys } =>
    match args.toList, tys.toList with
    | [s, x], [t, t'] =>
      if t = t' then
        match ev ts s, ev ts x with
        | some a, some b => appIn P mem t a b
        | _, _ => none
      else none
    | _, _ => none
  | _ => none
theorem run_append_roomG {P : Program} (w w' : World) (t ty e : TypeId) (i : TypeInfo) (ht : P.underlying t = some (.slice e)) (hi : P.info? e = some i) (A : Addr) (sLen sCap : Nat)
    (a : Addr) (m c : Nat) (news : List Value) (hl : news.length = m * i.size) (hnews : ∀ j u, news[j]? = some u → w.cell? (a.add j) = some u) (hroom : sLen + m ≤ sCap)
    (hst : (storeCells (A.add (sLen * i.size)) news).run P w = .ok () w') :
    (Builtin.append_ #[t, t] ty #[.slice (some A) sLen sCap, .slice (some a) m c]).run P w = .ok (.slice (some A) (sLen + m) sCap) w' := by
  have hf := run_firstCells_some (P := P) w i.size m a m c news hl hnews
  simp [Builtin.append_, run_underlying ht, sizeOf, typeInfo, hi, Builtin.lenOf, hroom, hf, hst]
theorem set_lk {mem : List Blk} {r : Nat} {b : Blk} (h : lk mem r = b) : ∀ i, lk (mem.set r b) i = lk mem i := by
  intro i
  rw [lk_set]
  split
  · rename_i hh; rw [hh.1, h]
  · rfl
theorem MemR.same {B : Nat} {w : World} {G : Gh} {mem mem' : List Blk} (hm : MemR B w G mem) (h : ∀ i, lk mem' i = lk mem i) : MemR B w G mem' :=
  ⟨fun i => by rw [h]; exact hm.blk i, fun i j x hij => by rw [h, h]; exact hm.apart i j x hij, fun i x => by rw [h]; exact hm.own i x, hm.fz, hm.base⟩
theorem run_bounds_far {P : Program} {w : World} {b : Bool} {n cap : Nat} {k1 k2 : IntKind} {l h : Int} (h0 : 0 ≤ l) (h1 : l ≤ h) (h2 : h ≤ cap) :
    (Instr.sliceBounds b n cap (some (.int k1 l)) (some (.int k2 h)) none).run P w = .ok (l.toNat, h.toNat, cap) w := by
  simp [Instr.sliceBounds, run_bound k2 h cap _ (by omega) h2, run_bound k1 l h.toNat _ h0 (by omega)]
theorem farFx_ok {P : Program} {ts : List AV} {mem : List Blk} {o : Oper} {b : Nat} {blk : Blk} {av : AV} {C : Prop} (he : farFx P ts mem o = some (b, blk, av, C)) : FxOk P o ts mem b blk av C ∧ b < mem.length ∧ av.refs = [b] ∧ blk.refs = [] := by
  unfold farFx at he
  split at he
  · rename_i t x lo hi ho
    split at he
    · rename_i a0 k1 i k2 j hx hlo hhi
      unfold farSlice at he
      split at he
      · rename_i r size s n el hut
        split at he
        · rename_i T e l inf hlk hinf
          split at he
          · rename_i hc
            obtain ⟨hz, hiz⟩ := hc
            simp only [Option.some.injEq, Prod.mk.injEq] at he
            obtain ⟨rfl, rfl, rfl, rfl⟩ := he
            have hnd : lk mem r ≠ .dead := by rw [hlk]; exact fun h => by cases h
            refine ⟨?_, lk_lt hnd, rfl, rfl⟩
            intro B w G a hC hm ht next Q hn
            obtain ⟨v, e1, ad, N, cap, a', hv, hN, hcm, hvv, hle, ha⟩ := (show ∃ v, [a.eval x] = [v] ∧ SubR size s n (G.rowv r) v from ev_ok ht hx)
            have ex : a.eval x = .slice a' n (cap - s) := by rw [← hvv]; simpa using e1
            obtain ⟨ad2, cap2, hv2, hlc, _⟩ := row_val hm hlk
            obtain ⟨rfl, hNl, rfl⟩ := Value.slice.inj (hv.symm.trans hv2)
            have elo : a.eval lo = .int k1 i := val_int (ev_ok ht hlo)
            have ehi : a.eval hi = .int k2 j := val_int (ev_ok ht hhi)
            obtain ⟨c0, c1, c2⟩ := hC
            have hb := run_bounds_far (P := P) (w := w) (b := true) (n := n) (cap := cap - s) (k1 := k1) (k2 := k2) c0 c1 (by omega)
            have hrun : (execOp a.eval o).run P w = .ok (.value (.slice (if cap - s = i.toNat then a' else a'.map (·.add (i.toNat * inf.size))) (j.toNat - i.toNat) (cap - s - i.toNat))) w := by
              simp only [execOp, ho, Sem.run_bind, Sem.run_pure, Result.andThen_ok, Option.map_some, Option.map_none, ex, elo, ehi, Instr.sliceAt, run_underlying hut, Instr.slice, hb, run_sz hinf]
            unfold Oper.wp
            rw [hrun]
            refine hn _ w (Below.refl _ _) ⟨Nat.le_refl _, fun _ _ _ => rfl, fun _ h => h⟩ (hm.same (set_lk hlk)) ?_
            refine ⟨_, rfl, ad, N, cap, _, hv, hN, hcm, by rw [Nat.sub_sub], by omega, fun hlt => ?_⟩
            rw [if_neg (by omega), ha (by omega), hz, hiz]
            cases ad with
            | none => rfl
            | some b => simp only [Option.map_some, addr_add_add, Nat.add_mul]
          · cases he
        · cases he
      · cases he
    · cases he
  · rename_i args tys ho
    split at he
    · rename_i sx x t t' hargs htys
      split at he
      · rename_i htt
        subst htt
        split at he
        · rename_i a0 b0 hs hx
          unfold appIn at he
          split at he
          · rename_i r size lo n el hut
            split at he
            · rename_i T e l inf hlk hinf
              split at he
              · rename_i l' hsrc
                split at he
                · rename_i hc
                  obtain ⟨hz, hiz, h0⟩ := hc
                  simp only [Option.some.injEq, Prod.mk.injEq] at he
                  obtain ⟨rfl, rfl, rfl, rfl⟩ := he
                  have hnd : lk mem r ≠ .dead := by rw [hlk]; exact fun h => by cases h
                  refine ⟨?_, lk_lt hnd, rfl, rfl⟩
                  intro B w G a hC hm ht next Q hn
                  rw [arr2 hargs, arr2 htys] at ho
                  obtain ⟨us, ⟨hul, adx, capx, hvx, hxs⟩, hcat⟩ := srcL_ok hm hsrc (ev_ok ht hx)
                  obtain ⟨v, e1, ad, N, cap, a', hv, hN, hcm, hvv, hle, ha⟩ := (show ∃ v, [a.eval sx] = [v] ∧ SubR size lo n (G.rowv r) v from ev_ok ht hs)
                  have es : a.eval sx = .slice a' n (cap - lo) := by rw [← hvv]; simpa using e1
                  obtain ⟨ad2, cap2, hv2, hlc, _⟩ := row_val hm hlk
                  obtain ⟨rfl, hNl, rfl⟩ := Value.slice.inj (hv.symm.trans hv2)
                  subst hz
                  -- what is written
                  have hsubv : ValR w G (.sub r e.size (lo + n) l'.length) (.slice (ad.map (·.add ((lo + n) * e.size))) l'.length (cap - (lo + n))) :=
                    ⟨_, rfl, ad, N, cap, _, hv, hN, hcm, rfl, by omega, fun _ => rfl⟩
                  obtain ⟨adr, cap', hvr, _, had, hrun⟩ := row_write (P := P) hm (dv := .sub r e.size (lo + n) l'.length) rfl hsubv hlk rfl hcat (Nat.le_refl _)
                  obtain ⟨rfl, _, _⟩ := Value.slice.inj hvr
                  have fin : ∃ w', (Builtin.append_ #[t, t] o.type #[.slice a' n (cap - lo), .slice adx l'.length capx]).run P w = .ok (.slice a' (n + l'.length) (cap - lo)) w' ∧ Below B w w' ∧ Keeps G.fz G.fz w w' ∧ MemR B w' G (mem.set r (.row T e (splice l (lo + n) l'))) := by
                    rcases Nat.eq_zero_or_pos l'.length with hm0 | hm0
                    · have hus : us = [] := List.length_eq_zero_iff.1 (by rw [hul, hm0, Nat.zero_mul])
                      subst hus
                      obtain ⟨w', hr, k1, k2, k3⟩ := hrun default (.inr rfl)
                      have : w' = w := by simpa [storeCells, Sem.run_pure] using hr.symm
                      subst this
                      refine ⟨w', ?_, k1, k2, k3⟩
                      rw [hm0]
                      have hroom : n ≤ cap - lo := by omega
                      cases adx <;> cases a' <;> simp [Builtin.append_, run_underlying hut, sizeOf, typeInfo, hinf, Builtin.lenOf, Builtin.firstCells, hroom, storeCells, loadCells, loadCellsFrom]
                    · have hupos : 0 < us.length := by rw [hul]; exact Nat.mul_pos hm0 h0
                      obtain ⟨bx, offx, rfl, hcell⟩ := hxs hm0
                      have hads := had hupos
                      obtain ⟨q, rfl⟩ : ∃ q, ad = some q := by
                        cases ad with
                        | none => cases hads
                        | some q => exact ⟨q, rfl⟩
                      have ha' : a' = some (q.add (lo * e.size)) := ha (by omega)
                      subst ha'
                      obtain ⟨w', hr, k1, k2, k3⟩ := hrun (q.add ((lo + n) * e.size)) (.inl rfl)
                      refine ⟨w', ?_, k1, k2, k3⟩
                      exact run_append_roomG w w' t _ el inf hut hinf (q.add (lo * e.size)) n (cap - lo) ⟨bx, offx, none⟩ l'.length capx us (by rw [hul, hiz]) (fun j u hj => by rw [addr_add']; exact hcell j u hj) (by omega)
                        (by rw [hiz, addr_add_add, ← Nat.add_mul]; exact hr)
                  obtain ⟨w', hr, k1, k2, k3⟩ := fin
                  have hrun2 : (execOp a.eval o).run P w = .ok (.value (.slice a' (n + l'.length) (cap - lo))) w' := by
                    simp only [execOp, ho, resolve, Sem.run_bind, Sem.run_pure, Result.andThen_ok, invoke, builtin, List.map_toArray, List.map_cons, List.map_nil, es, hvx]
                    rw [hr]
                    simp only [Result.andThen_ok, Sem.run_pure]
                  unfold Oper.wp
                  rw [hrun2]
                  exact hn _ w' k1 k2 k3 ⟨_, rfl, ad, N, cap, a', hv, hN, hcm, rfl, by omega, ha⟩
                · cases he
              · cases he
            · cases he
          · cases he
        · cases he
      · cases he
    · cases he
  · cases he
def farK (P : Program) (ops : Array Oper) (k : Nat) (st : St) : Option (St × Prop) :=
  match ops[k]? with
  | some o =>
    match evGuard ops.toList st.1 o with
    | some true =>
      match farFx P st.1 st.2 o with
      | some (b, blk, av, C) => some ((tput st.1 o.dst av, st.2.set b blk), C)
      | none => none
    | _ => none
  | none => none
theorem TOS.farC {P : Program} {w0 : World} {fz0 : Nat → Prop} {st : St} {Q : Exit → Act → World → Prop} {ops : Array Oper} {k : Nat} {C : Prop} (st' : St) (h : farK P ops k st = some (st', C)) (hC : C) (hn : TOS P w0 fz0 ops (k + 1) st' Q) : TOS P w0 fz0 ops k st Q := by
  intro G a w hs
  unfold farK at h
  split at h
  · rename_i o hok
    split at h
    · rename_i hg
      split at h
      · rename_i b blk av C' hfx
        simp only [Option.some.injEq, Prod.mk.injEq] at h
        obtain ⟨rfl, rfl⟩ := h
        obtain ⟨h1, h2, h3, h4⟩ := farFx_ok hfx
        have hlt : k < ops.size := (Array.getElem?_eq_some_iff.1 hok).1
        rw [show ops.size - k = (ops.size - (k + 1)) + 1 by omega, List.range'_succ]
        simp only [wpOps, hok]
        rw [evGuard_ok hs.tmps hg]
        simp only [if_true]
        refine .inl ?_
        refine StR.step (C := C') h1.eff (fun hr => ?_) (fun hr => ?_) hC hs _ Q (fun a' w' G' hs' => hn G' a' w' hs')
        · exact tput_refs hr (by simp) (by rw [h3, List.length_set]; intro r hr'; simp only [List.mem_singleton] at hr'; omega)
        · intro i r hr'
          rw [List.length_set]
          rw [lk_set] at hr'
          split at hr'
          · rw [h4] at hr'; cases hr'
          · exact hr i r hr'
      · cases h
    · cases h
  · cases h
def farS (P : Program) (ops : Array Oper) (k : Nat) (st : St) : St := match farK P ops k st with | some x => x.1 | none => ([], [])
def farC (P : Program) (ops : Array Oper) (k : Nat) (st : St) : Prop := match farK P ops k st with | some x => x.2 | none => False
theorem TOS.far {P : Program} {w0 : World} {fz0 : Nat → Prop} {st : St} {Q : Exit → Act → World → Prop} {ops : Array Oper} {k : Nat} {C : Prop} (hq : C) (h : Go.Proofs.YtekmnhplhoejdaaDoor.farC P ops k st = C) (hn : TOS P w0 fz0 ops (k + 1) (farS P ops k st) Q) : TOS P w0 fz0 ops k st Q := by
  subst h
  unfold Go.Proofs.YtekmnhplhoejdaaDoor.farC at hq
  unfold farS at hn
  cases hk : farK P ops k st with
  | none => rw [hk] at hq; exact hq.elim
  | some x =>
    obtain ⟨st', C⟩ := x
    rw [hk] at hq hn
    exact TOS.farC st' hk hq hn
end Go.Proofs.YtekmnhplhoejdaaDoor
