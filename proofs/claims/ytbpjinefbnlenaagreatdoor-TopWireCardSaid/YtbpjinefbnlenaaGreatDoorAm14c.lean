/- A machine of values, part 14c: 'append' in a drawn region. -/
import Derived.Test.YtbpjinefbnlenaaGreatDoorAm14o
namespace Go.Proofs.YtbpjinefbnlenaaGreatDoor
open Go Go.RowKit
set_option linter.unusedVariables false

def evAppL (P : Program) (ts : List AV) (mem : List Blk) (s x : Operand) (t : TypeId) : Option (Option Nat × Blk × Prop) :=
  match P.underlying t, ev ts s, ev ts x with
  | some (.slice el), some sv, some xv =>
    match dstL mem sv with
    | some (r, T, ⟨e, l⟩) =>
      match srcL mem e xv with
      | some l' => if T = el ∧ elemOk P el e = true then some (some r, .row el e (l ++ l'), l.length + l'.length ≤ capK P el) else none
      | none => none
    | none =>
    match sv with
    | .nilS =>
      match shOf P 12 el with
      | some e =>
        match srcL mem e xv with
        | some l' => if elemOk P el e = true then some (none, .row el e l', l'.length ≤ capK P el) else none
        | none => none
      | none => none
    | .row r =>
      match lk mem r with
      | .rowl T e l none =>
        match newPart mem e xv with
        | some (l', x') => if T = el ∧ elemOk P el e = true then some (some r, .rowl el e (l ++ l') x', l.length + (l'.length + lstN x') ≤ capK P el) else none
        | none => none
      | _ => none
    | _ => none
  | _, _, _ => none
theorem newPart_mono {mem mem' : List Blk} {e : Sh} {x : AV} {q : List e.T × Option (Bool × AV)} (h : newPart mem e x = some q) (hs : ∀ l, srcL mem e x = some l → srcL mem' e x = some l) (hs2 : srcL mem e x = none → ∀ r, x = .row r → (∃ T e' c, lk mem r = .rowl T e' [] (some (true, c))) → lk mem' r = lk mem r) : newPart mem' e x = some q := by
  unfold newPart at h ⊢
  split at h
  · rename_i l' hsrc
    rw [hs l' hsrc]; exact h
  · rename_i hn
    split at h
    · rename_i q'
      split at h
      · rename_i T e' c hlk
        have e1 := hs2 hn q' rfl ⟨T, e', c, hlk⟩
        have e2 : srcL mem' e (.row q') = none := by
          simp only [srcL, e1, hlk]
        rw [e2]
        simp only [e1, hlk]
        exact h
      · cases h
    · cases h
def killO (mem : List Blk) : Option Nat → List Blk
  | some r => mem.set r .dead
  | none => mem
theorem srcL_mono {mem mem' : List Blk} {e : Sh} {x : AV} {l : List e.T} (h : srcL mem e x = some l) (hm : ∀ i, lk mem i = lk mem' i ∨ lk mem i = .dead) : srcL mem' e x = some l := by
  cases x with
  | row r =>
    simp only [srcL] at h ⊢
    rcases hm r with h1 | h1
    · rw [← h1]; exact h
    · rw [h1] at h; cases h
  | sub r size lo n =>
    simp only [srcL] at h ⊢
    rcases hm r with h1 | h1
    · rw [← h1]; exact h
    · rw [h1] at h; cases h
  | _ => exact h
theorem dstL_mono {mem mem' : List Blk} {x : AV} {q : Nat × TypeId × (Σ e : Sh, List e.T)} (h : dstL mem x = some q) (hm : ∀ i, lk mem i = lk mem' i ∨ lk mem i = .dead) : dstL mem' x = some q := by
  unfold dstL at h ⊢
  split at h
  · rename_i r
    rcases hm r with h1 | h1
    · rw [← h1]; exact h
    · rw [h1] at h; cases h
  · rename_i r size n
    rcases hm r with h1 | h1
    · rw [← h1]; exact h
    · rw [h1] at h; cases h
  · cases h
theorem evAppL_mono {P : Program} {ts : List AV} {mem mem' : List Blk} {s x : Operand} {t : TypeId} {r : Option Nat × Blk × Prop} (h : evAppL P ts mem s x t = some r) (hm : ∀ i, lk mem i = lk mem' i ∨ lk mem i = .dead) : evAppL P ts mem' s x t = some r := by
  unfold evAppL at h
  split at h
  · rename_i el sv xv hut hs hx
    split at h
    · rename_i r0 T e l hdst
      split at h
      · rename_i l' hsrc
        unfold evAppL
        simp only [hut, hs, hx, dstL_mono hdst hm, srcL_mono hsrc hm]
        exact h
      · cases h
    · rename_i hdst
      split at h
      · split at h
        · rename_i e hsh
          split at h
          · rename_i l' hsrc
            unfold evAppL
            simp only [hut, hs, hx, dstL, hsh, srcL_mono hsrc hm]
            exact h
          · cases h
        · cases h
      · rename_i r
        split at h
        · rename_i T e l hlk
          split at h
          · rename_i l' x' hnp
            have hlk' : lk mem' r = .rowl T e l none := by
              rcases hm r with h1 | h1
              · rw [← h1]; exact hlk
              · rw [h1] at hlk; cases hlk
            have hnp' : newPart mem' e xv = some (l', x') := newPart_mono hnp (fun l hl => srcL_mono hl hm) (fun _ r2 _ ⟨T2, e2, c2, h2⟩ => by
              rcases hm r2 with h1 | h1
              · exact h1.symm
              · rw [h1] at h2; cases h2)
            have hd' : dstL mem' (.row r) = none := by simp only [dstL, hlk']
            unfold evAppL
            simp only [hut, hs, hx, hd', hlk', hnp']
            exact h
          · cases h
        · cases h
      · cases h
  · cases h
theorem evAppL_ok {P : Program} {o : Oper} {ts : List AV} {mem : List Blk} {s x : Operand} {t : TypeId} {old : Option Nat} {row : Blk} {C : Prop} (ho : o.op = .call { callee := .builtin .append, args := #[s, x], argTypes := #[t, t] }) (h : evAppL P ts mem s x t = some (old, row, C))
    (base : Nat) (B : Nat) (w : World) (G : Gh) (a : Act) (hC : C) (hm : MemR B w G mem) (ht : TmpsR w G ts a) (hrb : ∀ i r, r ∈ (lk mem i).refs → r ≠ base) (next : Act → World → Prop) (Q : Exit → Act → World → Prop)
    (hn : ∀ v w' G', Below B w w' → Keeps G.fz G'.fz w w' → (∀ i, i ≠ base → Agree G G' i) → G'.fz = G.fz → ValR w' G' (.row base) v → MemR B w' G' (memPut (killO mem old) base [row]) → next (a.put o.dst v) w') : o.wp P a w next Q := by
  unfold evAppL at h
  split at h
  · rename_i el sv xv hut hs hx
    have go : ∀ (e : Sh) (n : Nat) (xs : List Value) (l0 l' : List e.T) (mem0 : List Blk) (ob : Option Nat), elemOk P el e = true → RowV B w el e.size (a.eval s) n xs → l0.length = n → CatR (ShR w G.fz e) l0 xs → srcL mem e xv = some l' → n + l'.length ≤ capK P el →
        (∀ i, lk mem0 i = lk mem i ∨ lk mem0 i = .dead) → rowBlk (a.eval s) = ob → (∀ i g, ob = some g → (lk mem0 i).live G i ≠ some g) → (∀ g, ob = some g → ¬ G.fz g) →
        killO mem old = mem0 → row = .row el e (l0 ++ l') → o.wp P a w next Q := by
      intro e n xs l0 l' mem0 ob hel hrow hl0 hcat0 hsrc hle hm0 hold hold1 hold2 hmem hrw
      obtain ⟨inf, z, hi, hz, h1, h2, h3, h4⟩ := elemOk_ok hel
      obtain ⟨us, hus, hcat⟩ := srcL_ok hm hsrc (ev_ok ht hx)
      obtain ⟨v', w', hr, hr1, hr2, hr3, hr4, _⟩ := run_app (P := P) (ty := o.type) hut hi hz h1 h2 h3 h4 hrow hus (CatR.one' e _ _ hcat) hle hm.base.1
      rw [hold] at hr3 hr4
      obtain ⟨G', g1, g2, g3, g4, g5⟩ := hm.newRowAt (l := l0 ++ l') base hm0 hold1 hold2 hrb hr2 hr3 (by rw [List.length_append, hl0]; exact hr1) hr4 (CatR.append hcat0 hcat)
      unfold Oper.wp
      have e1 : (execOp a.eval o).run P w = .ok (.value v') w' := by
        simp only [execOp, ho, resolve, Sem.run_bind, Sem.run_pure, Result.andThen_ok, invoke, builtin, List.map_toArray, List.map_cons, List.map_nil, hr]
      rw [e1]
      refine hn v' w' G' hr2 g2 g3 g5 ?_ (by rw [hmem, hrw]; exact g1)
      show [v'] = [G'.rowv base] ∧ _
      rw [g4]
      exact ⟨rfl, hr1.one⟩
    split at h
    · rename_i r T e l hdst
      split at h
      · rename_i l' hsrc
        split at h
        · rename_i hcond
          obtain ⟨rfl, hel⟩ := hcond
          simp only [Option.some.injEq, Prod.mk.injEq] at h
          obtain ⟨rfl, rfl, rfl⟩ := h
          obtain ⟨cs, hrow, hcat, hlive, hnd, _⟩ := dstL_ok hm hdst (ev_ok ht hs)
          have hrl : r < mem.length := lk_lt hnd
          refine go e l.length cs l l' (mem.set r .dead) (rowBlk (a.eval s)) hel hrow rfl hcat hsrc hC (fun i => ?_) rfl (fun i g hg hi => ?_) (fun g hg => ?_) rfl rfl
          · rw [lk_set]; split
            · exact .inr rfl
            · exact .inl rfl
          · rw [lk_set] at hi
            split at hi
            · cases hi
            · rename_i hir
              exact hm.apart i r g (fun e => hir ⟨e, hrl⟩) hi (by rw [hlive]; exact hg)
          · exact (hm.own r g (by rw [hlive]; exact hg)).2.2
        · cases h
      · cases h
    split at h
    · split at h
      · rename_i e hsh
        split at h
        · rename_i l' hsrc
          split at h
          · rename_i hel
            simp only [Option.some.injEq, Prod.mk.injEq] at h
            obtain ⟨rfl, rfl, rfl⟩ := h
            have e2 : a.eval s = .slice none 0 0 := by
              have : [a.eval s] = [Value.slice none 0 0] := ev_ok ht hs
              simpa using this
            exact go e 0 [] [] l' mem none hel (by rw [e2]; exact .inl ⟨rfl, rfl, none, rfl⟩) rfl rfl hsrc (by omega) (fun i => .inl rfl) (by rw [e2]; rfl) (fun i g hg => by cases hg) (fun g hg => by cases hg) rfl rfl
          · cases h
        · cases h
      · cases h
    · rename_i r hdn
      split at h
      · rename_i T e l hlk
        split at h
        · rename_i l' x' hnp
          split at h
          · rename_i hc
            obtain ⟨rfl, hel⟩ := hc
            simp only [Option.some.injEq, Prod.mk.injEq] at h
            obtain ⟨rfl, rfl, rfl⟩ := h
            obtain ⟨inf, z, hi, hz, h1, h2, h3, h4⟩ := elemOk_ok hel
            obtain ⟨cs, hrow, hcat, _, hlive, hnd⟩ := rowD_ok (T := T) (e := e) (l := l) hm (show rowD mem r = some (T, ⟨e, l⟩) by simp only [rowD, hlk])
            have hrl : r < mem.length := lk_lt hnd
            obtain ⟨e1, _⟩ := (show [a.eval s] = [G.rowv r] ∧ _ from ev_ok ht hs)
            have es : a.eval s = G.rowv r := by simpa using e1
            obtain ⟨c1, c2, hsrc, hcat2, hlst, hone, hxr⟩ := newPart_ok hm hnp (ev_ok ht hx)
            obtain ⟨v', w', hr, hr1, hr2, hr3, hr4⟩ := run_appO (P := P) (ty := o.type) hut hi hz h1 h2 h3 h4 hrow hsrc hone hC hm.base.1
            obtain ⟨G', g1, g2, g3, g4, g5⟩ := hm.newBlkAt (mem0 := mem.set r .dead) (x := .rowl T e (l ++ l') x') (v' := v') (old := rowBlk (G.rowv r)) base (fun i => by
                rw [lk_set]; split
                · exact .inr rfl
                · exact .inl rfl) (fun i g hg hi => by
                rw [lk_set] at hi
                split at hi
                · cases hi
                · rename_i hir
                  exact hm.apart i r g (fun e => hir ⟨e, hrl⟩) hi (by rw [hlive]; exact hg)) (fun g hg => (hm.own r g (by rw [hlive]; exact hg)).2.2) hrb hr2 hr3 hr4 (fun g hg => hr1.blk hg) (fun G' f1 f2 f3 f4 f5 => by
                refine ⟨⟨by rw [f2, f3]; exact rowAt_self hr1, cs ++ c1, c2, ?_, ?_, ?_⟩, by show rowBlk (G'.rowv base) = _; rw [f2]⟩
                · rw [f2, List.length_append, Nat.add_assoc, List.append_assoc]; exact hr1
                · exact CatR.append (CatR.mono (fun y c hy => ShR.keep f5 e y c hy) _ _ hcat) (CatR.mono (fun y c hy => ShR.keep f5 e y c hy) _ _ hcat2)
                · refine LstR.keep f5 x' c2 (fun q hq => f4 q ?_) hlst
                  obtain ⟨j, hj⟩ := hxr q hq
                  exact hrb j q hj)
            have e2 : (execOp a.eval o).run P w = .ok (.value v') w' := by
              simp only [execOp, ho, resolve, Sem.run_bind, Sem.run_pure, Result.andThen_ok, invoke, builtin, List.map_toArray, List.map_cons, List.map_nil, es, hr]
            unfold Oper.wp
            rw [e2]
            refine hn v' w' G' hr2 g2 g3 g5 ?_ g1
            show [v'] = [G'.rowv base] ∧ _
            rw [g4]
            exact ⟨rfl, hr1.one⟩
          · cases h
        · cases h
      · cases h
    · cases h
  · cases h
end Go.Proofs.YtbpjinefbnlenaaGreatDoor
