/- A machine of values, part 13: stores and appends. -/
import Derived.Test.YtbpjinefbnlenaaGreatDoorAm12
namespace Go.Proofs.YtbpjinefbnlenaaGreatDoor
open Go Go.RowKit
set_option linter.unusedVariables false

/-- what may become frozen: what was, and what is new since the call began -/
def Fz (B : Nat) (w w' : World) (G G' : Gh) : Prop := (∀ b, G.fz b → G'.fz b) ∧ (∀ b, G'.fz b → G.fz b ∨ B ≤ b) ∧ ∀ b, G.fz b → b < w.heap.size → w'.heap[b]? = w.heap[b]?
theorem Fz.refl (B : Nat) {w w' : World} (G : Gh) (hk : Keeps G.fz G.fz w w') : Fz B w w' G G := ⟨fun _ h => h, fun _ h => .inl h, hk.block⟩
/-- an operation: the machine's temporaries and memory behind it -/
def EffOp (P : Program) (o : Oper) (ts : List AV) (mem : List Blk) (ts' : List AV) (mem' : List Blk) (C : Prop) : Prop :=
  ∀ (B : Nat) (w : World) (G : Gh) (a : Act), C → MemR B w G mem → TmpsR w G ts a → (∀ t r, r ∈ (ts.getD t .unk).refs → r < mem.length) → (∀ i r, r ∈ (lk mem i).refs → r < mem.length) →
    ∀ (next : Act → World → Prop) (Q : Exit → Act → World → Prop), (∀ a' w' G', Below B w w' → Fz B w w' G G' → MemR B w' G' mem' → TmpsR w' G' ts' a' → a'.defers = a.defers → next a' w') → o.wp P a w next Q
theorem put_defers (a : Act) (d : Option Tmp) (v : Value) : (a.put d v).defers = a.defers := by cases d <;> rfl
theorem lk_big {mem : List Blk} {i : Nat} (h : mem.length ≤ i) : lk mem i = .dead := by
  simp only [lk, List.getD_eq_getElem?_getD, List.getElem?_eq_none h, Option.getD_none]
theorem PureOp.eff {P : Program} {o : Oper} {ts : List AV} {mem : List Blk} {av : AV} {new : List Blk} {C : Prop} (h : PureOp P o ts mem mem.length av new C) : EffOp P o ts mem (tput ts o.dst av) (memPut mem mem.length new) C := by
  intro B w G a hC hm ht hrt hrm next Q hn
  refine h B w G a hC hm ht hrt hrm next Q fun v w' G' hN hv => ?_
  refine hn _ w' G' (hN.below.mono hm.base.1) ⟨hN.fz1, fun b hb => (hN.fz2 b hb).imp id (fun h => Nat.le_trans hm.base.1 h.1), hN.keeps.block⟩ (hm.more hN (fun i hi _ => lk_big hi) (fun i r hr => .inl (hrm i r hr))) ?_ (put_defers _ _ _)
  exact (ht.keep hN.keeps (fun t r hr => hN.agree r (.inl (hrt t r hr)))).put _ hv

theorem lk_set (mem : List Blk) (b i : Nat) (x : Blk) : lk (mem.set b x) i = if i = b ∧ b < mem.length then x else lk mem i := by
  simp only [lk, List.getD_eq_getElem?_getD, List.getElem?_set]
  by_cases h : b = i
  · subst h
    by_cases hlt : b < mem.length
    · simp [hlt]
    · simp [hlt]
  · have h' : ¬ i = b := fun e => h e.symm
    simp [h, h']
theorem lk_lt {mem : List Blk} {i : Nat} (h : lk mem i ≠ .dead) : i < mem.length := by
  rcases Nat.lt_or_ge i mem.length with h1 | h1
  · exact h1
  · exact absurd (lk_big h1) h
/-- an own block is written -/
theorem MemR.write {B : Nat} {w w' : World} {G : Gh} {mem : List Blk} {b g : Nat} {x : Blk} (hm : MemR B w G mem) (hl : (lk mem b).live G b = some g) (hs : w'.heap.size = w.heap.size) (ho : ∀ k, k ≠ g → w'.heap[k]? = w.heap[k]?)
    (hx : BlkR B w' G b x) (hxl : x.live G b = some g) : MemR B w' G (mem.set b x) ∧ Keeps G.fz G.fz w w' := by
  have hg := hm.own b g hl
  have hk : Keeps G.fz G.fz w w' := ⟨by omega, fun k hf _ => ho k (fun e => hg.2.2 (e ▸ hf)), fun _ h => h⟩
  have hlv : ∀ i, (lk (mem.set b x) i).live G i = (lk mem i).live G i := by
    intro i
    rw [lk_set]
    split
    · rename_i h; obtain ⟨rfl, _⟩ := h; rw [hl, hxl]
    · rfl
  refine ⟨⟨fun i => ?_, fun i j y hij hi hj => ?_, fun i y hi => ?_, fun k hf => by rw [hs]; exact hm.fz k hf, hm.base.keep (by omega) (fun k h0 => ho k (by omega))⟩, hk⟩
  · rw [lk_set]
    split
    · rename_i h; obtain ⟨rfl, _⟩ := h; exact hx
    · rename_i h
      by_cases hb : i = b
      · subst hb
        have : lk mem i = .dead := lk_big (by omega)
        rw [this] at hl; cases hl
      · refine (hm.blk i).keep hk ⟨rfl, rfl⟩ (fun _ _ => ⟨rfl, rfl⟩) (Nat.le_refl _) (fun y hy => ho y (fun e => ?_))
        subst e
        exact hm.apart i b y hb hy hl
  · rw [hlv] at hi hj
    exact hm.apart i j y hij hi hj
  · rw [hlv] at hi
    rw [hs]
    exact hm.own i y hi
/-- cells are stored into a block of which nothing is barred but what lies behind its cells -/
theorem run_storeCells_fr (P : Program) (g o : Nat) (t : TypeId) (fr : Nat × Nat) : ∀ (vs : List Value) (i : Nat) (cur : Array Value) (w : World), w.heap[g]? = some (.cells cur t fr) → o + i + vs.length ≤ cur.size → (fr = (0, 0) ∨ cur.size ≤ fr.1) → (∀ v ∈ vs, v.oneCell' = true) →
    (storeCells ⟨g, o, none⟩ vs i).run P w = .ok () (w.setRow g (cur.toList.take (o + i) ++ vs ++ cur.toList.drop (o + i + vs.length)).toArray)
  | [], i, cur, w, hg, _, _, _ => by
    simp only [storeCells, List.append_nil, List.length_nil, Nat.add_zero, List.take_append_drop, Array.toArray_toList]
    rw [setRow_self w g cur t fr hg]
    rfl
  | v :: rest, i, cur, w, hg, hl, hfr, h1 => by
    have hi : o + i < cur.size := by simp at hl; omega
    have hadd : (⟨g, o, none⟩ : Addr).add i = ⟨g, o + i, none⟩ := by unfold Addr.add; split <;> simp_all
    have hcell : w.cell? ⟨g, o + i, none⟩ = some cur[o + i] := by simp [World.cell?, hg, hi]
    have hfro : w.frozen? ⟨g, o + i, none⟩ = false := by
      simp only [World.frozen?, hg]
      rcases hfr with rfl | h
      · simp
      · simp; omega
    have hst : (store ((⟨g, o, none⟩ : Addr).add i) v).run P w = .ok () (w.setRow g (cur.setIfInBounds (o + i) v)) := by
      rw [hadd, run_store P w _ v _ (h1 v (by simp)), hcell]
      simp [hfro, setCell_eq_setRow w g (o + i) cur t fr v hg]
    have ih := run_storeCells_fr P g o t fr rest (i + 1) (cur.setIfInBounds (o + i) v) (w.setRow g (cur.setIfInBounds (o + i) v)) (setRow_heap w g cur _ t _ hg) (by simp at hl ⊢; omega) (hfr.imp id fun h => by simpa using h) (fun x hx => h1 x (by simp [hx]))
    simp only [storeCells, Sem.run_bind, hst, Result.andThen_ok, ih, setRow_setRow]
    congr 3
    have e := list_seg_step cur.toList (o + i) v rest (by simp at hl ⊢; omega)
    simpa [Array.toList_setIfInBounds, Nat.add_assoc] using e
/-- cells are stored into the head of an own block -/
theorem run_storeOwn {P : Program} {w : World} {g : Nat} {t : TypeId} {c1 c2 c3 rest vs : List Value} (h : OwnAt w g t (c1 ++ c2 ++ c3) rest) (hl : vs.length = c2.length) (h1 : ∀ v ∈ vs, v.oneCell' = true) :
    ∃ w', (storeCells ⟨g, c1.length, none⟩ vs).run P w = .ok () w' ∧ w'.heap.size = w.heap.size ∧ (∀ k, k ≠ g → w'.heap[k]? = w.heap[k]?) ∧ OwnAt w' g t (c1 ++ vs ++ c3) rest ∧ Below g w w' := by
  obtain ⟨fr, h, hfr⟩ := h
  have hrun := run_storeCells_fr P g c1.length t fr vs 0 (c1 ++ c2 ++ c3 ++ rest).toArray w h (by simp; omega) (hfr.imp id fun h => by simpa using h.2) h1
  refine ⟨_, hrun, by simp, fun k hk => setRow_other _ _ _ _ hk, ⟨fr, ?_, hfr.imp id fun h => ⟨h.1, by have h := h.2; simp only [List.length_append] at h ⊢; omega⟩⟩, ?_⟩
  · rw [setRow_heap w g _ _ t fr h]
    congr 2
    simp only [List.append_assoc, Nat.add_zero]
    rw [List.take_left, hl]
    have e : (c1 ++ (c2 ++ (c3 ++ rest))).drop (c1.length + c2.length) = c3 ++ rest := by
      rw [← List.append_assoc, show c1.length + c2.length = (c1 ++ c2).length by simp, List.drop_left]
    rw [e]
  · exact ⟨rfl, rfl, rfl, by simp, fun k hk => setRow_other _ _ _ _ (by omega)⟩
/-- a store -/
def evStore (P : Program) (ts : List AV) (mem : List Blk) (t : TypeId) (p x : Operand) : Option (List Blk × Prop) :=
  match ev ts p, ev ts x with
  | some (.ptr b q), some v =>
    if (v.flat || v.agg) = true ∧ (P.info? t).map (·.size) = some v.size then
      match lk mem b with
      | .box T c =>
        match AV.set q v c with
        | some (c', C) => some (mem.set b (.box T c'), C)
        | none => none
      | .row T e l =>
        match AV.set q v (.arr l.length e l) with
        | some (.arr n e' l', C) => if e'.size = e.size ∧ 0 < v.size then some (mem.set b (.row T e' l'), C ∧ n = l.length) else none
        | _ => none
      | .rowl T e l (some (z, c)) =>
        match q with
        | .lst o :: q' =>
          match AV.set q' v c with
          | some (c', C) => some (mem.set b (.rowl T e l (some (z, c'))), (z = true ∧ o = l.length * e.size) ∧ C)
          | none => none
        | _ => none
      | _ => none
    else none
  | _, _ => none
theorem evStore_ok1 {P : Program} {o : Oper} {ts : List AV} {mem mem' : List Blk} {t : TypeId} {p x : Operand} {C : Prop} (ho : o.op = .store t p x) (h : evStore P ts mem t p x = some (mem', C))
    (B : Nat) (w : World) (G : Gh) (a : Act) (hC : C) (hm : MemR B w G mem) (ht : TmpsR w G ts a) (next : Act → World → Prop) (Q : Exit → Act → World → Prop)
    (hn : ∀ w', Below B w w' → Keeps G.fz G.fz w w' → MemR B w' G mem' → next (a.put o.dst undef) w') : o.wp P a w next Q := by
  unfold evStore at h
  split at h
  · rename_i b q v hp hx
    split at h
    · rename_i hcond
      obtain ⟨hf, hinf⟩ := hcond
      simp only [Option.map_eq_some_iff] at hinf
      obtain ⟨inf, hinf, hz⟩ := hinf
      have hv : CellsR w G v (a.eval x).cells.toList := ValR0.cells ((ev_ok ht hx).to0 (flagg_tup hf)) hf
      have hvl := CellsR.length v _ hv
      have h1 := CellsR.one v _ hv
      have hpv := val_ptr (ev_ok ht hp)
      -- the run, when the cells lie in an own block
      have hrun : ∀ (g : Nat) (T : TypeId) (c1 c2 c3 rest : List Value), (⟨(G.addr b).block, (G.addr b).off + offs q, none⟩ : Addr) = ⟨g, c1.length, none⟩ → OwnAt w g T (c1 ++ c2 ++ c3) rest → c2.length = v.size →
          (∀ w', w'.heap.size = w.heap.size → (∀ k, k ≠ g → w'.heap[k]? = w.heap[k]?) → OwnAt w' g T (c1 ++ (a.eval x).cells.toList ++ c3) rest → Below g w w' → next (a.put o.dst undef) w') → o.wp P a w next Q := by
        intro g T c1 c2 c3 rest ha hat hc2 hfin
        obtain ⟨w', hr, hs, hoth, hat', hbel⟩ := run_storeOwn (P := P) hat (by rw [hvl, hc2]) h1
        have hsz : ¬ (a.eval x).cells.size ≠ inf.size := by
          rw [hz]
          simp only [Array.length_toList] at hvl
          simp [hvl]
        unfold Oper.wp
        have e : (execOp a.eval o).run P w = .ok .skip w' := by
          simp only [execOp, ho, Instr.storeAt, hpv, Instr.sureAddr, storeVar, Sem.run_bind, Sem.run_pure, Result.andThen_ok, run_sz hinf]
          rw [if_neg hsz, ha, hr]
          rfl
        rw [e]
        exact hfin w' hs hoth hat' hbel
      split at h
      · rename_i T c hlk
        split at h
        · rename_i c' D hset
          simp only [Option.some.injEq, Prod.mk.injEq] at h
          obtain ⟨rfl, rfl⟩ := h
          have hb := hm.blk b
          rw [hlk] at hb
          obtain ⟨h0, cs, hat, hcs⟩ := hb
          obtain ⟨c1, c2, c3, rfl, hl1, hl2, hset2⟩ := AV.set_ok q v c c' D cs hset hC hcs
          refine hrun (G.addr b).block T c1 c2 c3 [] (by rw [h0, Nat.zero_add, hl1]) hat hl2 fun w' hs hoth hat' hbel => ?_
          have hlive : (lk mem b).live G b = some (G.addr b).block := by rw [hlk]; rfl
          have hg := hm.own b _ hlive
          have hk0 : Keeps G.fz G.fz w w' := ⟨by omega, fun k hf' _ => hoth k (fun e => hg.2.2 (e ▸ hf')), fun _ h => h⟩
          obtain ⟨hm', hk⟩ := hm.write (x := .box T c') hlive hs hoth ⟨h0, _, hat', CellsR.keep hk0 c' _ (fun _ _ => ⟨rfl, rfl⟩) (hset2 _ hv)⟩ rfl
          exact hn w' (hbel.mono hg.1) hk hm'
        · cases h
      · rename_i T e l hlk
        split at h
        · rename_i n e' l' D hset
          split at h
          · rename_i he
            obtain ⟨he, hv0⟩ := he
            simp only [Option.some.injEq, Prod.mk.injEq] at h
            obtain ⟨rfl, rfl⟩ := h
            obtain ⟨hD, hnl⟩ := hC
            have hb := hm.blk b
            rw [hlk] at hb
            obtain ⟨h0, cs, hrow, hcat⟩ := hb
            rcases hrow with ⟨hn0, rfl, _⟩ | ⟨g, cap, rest, hval, hcap, hB, hat, hnc, hcm, hcl, hcr⟩
            · exfalso
              obtain ⟨c1, c2, c3, e1, hl1, hl2, hset2⟩ := AV.set_ok q v _ _ D [] hset hD (⟨rfl, hcat⟩ : CellsR w G (.arr l.length e l) [])
              have := congrArg List.length e1
              simp only [List.length_nil, List.length_append] at this
              omega
            · have hga := h0 g (by rw [hval]; cases cap with | zero => omega | succ n => rfl)
              obtain ⟨c1, c2, c3, rfl, hl1, hl2, hset2⟩ := AV.set_ok q v _ _ D cs hset hD (⟨rfl, hcat⟩ : CellsR w G (.arr l.length e l) cs)
              refine hrun g T c1 c2 c3 rest (by rw [hga, Nat.zero_add, hl1]) hat hl2 fun w' hs hoth hat' hbel => ?_
              have hlive : (lk mem b).live G b = some g := by
                rw [hlk, Blk.live, hval]
                cases cap with | zero => omega | succ n => rfl
              have hg := hm.own b _ hlive
              have hk0 : Keeps G.fz G.fz w w' := ⟨by omega, fun k hf' _ => hoth k (fun e => hg.2.2 (e ▸ hf')), fun _ h => h⟩
              obtain ⟨hl', hcat'⟩ := hset2 _ hv
              have hlen : (c1 ++ (a.eval x).cells.toList ++ c3).length = (c1 ++ c2 ++ c3).length := by
                simp only [List.length_append]
                omega
              have hll : l'.length = l.length := by rw [hl', hnl]
              obtain ⟨hm', hk⟩ := hm.write (x := .row T e' l') hlive hs hoth ⟨h0, _, .inr ⟨g, cap, rest, by rw [hval, hll], hcap, hB, hat', by omega, hcm, by rw [hlen, hcl, hll, he], by
                rw [List.length_append, hlen, ← List.length_append, hcr, he]⟩, CatR.mono (fun y c hy => ShR.keep hk0 e' y c hy) _ _ hcat'⟩ (by
                  rw [Blk.live, hval]
                  cases cap with | zero => omega | succ n => rfl)
              exact hn w' (hbel.mono hg.1) hk hm'
          · cases h
        · cases h
      · rename_i T e l z c hlk
        split at h
        · rename_i o q'
          split at h
          · rename_i c' D hset
            simp only [Option.some.injEq, Prod.mk.injEq] at h
            obtain ⟨rfl, rfl⟩ := h
            obtain ⟨⟨hz1, ho1⟩, hD⟩ := hC
            have hb := hm.blk b
            rw [hlk] at hb
            obtain ⟨h0, d1, d2, hrow, hcat, hx⟩ := hb
            have hd1 := CatR.length (fun y c hy => ShR.length e y c hy) _ _ hcat
            have hN : lstN (some (z, c)) = 1 := by rw [hz1]; rfl
            rw [hN] at hrow
            rcases hrow with ⟨hn0, _, _⟩ | ⟨g, pre, cap, rest, hval, hcap, hB, hat, hnc, hcm, hcl, hcr⟩
            · omega
            · have hga := h0 g _ _ cap hval hcap
              obtain ⟨c1, c2, c3, rfl, hl1, hl2, hset2⟩ := AV.set_ok q' v c c' D d2 hset hD (hx.1 hz1)
              refine hrun g T (pre ++ d1 ++ c1) c2 c3 rest (by
                have e1 : (pre ++ d1 ++ c1).length = pre.length + offs (.lst o :: q') := by simp only [List.length_append, offs, hd1, hl1, ho1]; omega
                rw [hga, e1]) (by simpa [List.append_assoc] using hat) hl2 fun w' hs hoth hat' hbel => ?_
              have hlive : (lk mem b).live G b = some g := by
                rw [hlk, Blk.live, hval]
                cases cap with | zero => omega | succ n => rfl
              have hg := hm.own b g hlive
              have hk0 : Keeps G.fz G.fz w w' := ⟨by omega, fun k hf' _ => hoth k (fun e => hg.2.2 (e ▸ hf')), fun _ h => h⟩
              have hlen : (c1 ++ (a.eval x).cells.toList ++ c3).length = (c1 ++ c2 ++ c3).length := by
                simp only [List.length_append]
                omega
              obtain ⟨hm', hk⟩ := hm.write (x := .rowl T e l (some (z, c'))) hlive hs hoth ⟨h0, d1, c1 ++ (a.eval x).cells.toList ++ c3, (by
                have hN' : lstN (some (z, c')) = 1 := by rw [hz1]; rfl
                rw [hN']
                refine .inr ⟨g, pre, cap, rest, hval, hcap, hB, by simpa [List.append_assoc] using hat', hnc, hcm, ?_, ?_⟩
                · rw [List.length_append, hlen, ← List.length_append]; exact hcl
                · rw [List.length_append, List.length_append, hlen, ← List.length_append, ← List.length_append]; exact hcr), CatR.mono (fun y c hy => ShR.keep hk0 e y c hy) _ _ hcat, fun _ => CellsR.keep hk0 c' _ (fun _ _ => ⟨rfl, rfl⟩) (hset2 _ hv), fun hz2 => by rw [hz1] at hz2; cases hz2⟩ (by
                  rw [Blk.live, hval]
                  cases cap with | zero => omega | succ n => rfl)
              exact hn w' (hbel.mono hg.1) hk hm'
          · cases h
        · cases h
      · cases h
    · cases h
  · cases h
/-- a store's block, and what it becomes -/
def stB (P : Program) (ts : List AV) (mem : List Blk) (t : TypeId) (p x : Operand) : Option (Nat × Blk × Prop) :=
  match ev ts p with
  | some (.ptr b _) =>
    match evStore P ts mem t p x with
    | some (m, C) => some (b, lk m b, C)
    | none => none
  | _ => none
theorem ev_mono {ts ts' : List AV} {x : Operand} {a : AV} (h : ev ts x = some a) (hne : a ≠ .unk) (hm : ∀ t, ts.getD t .unk = ts'.getD t .unk ∨ ts.getD t .unk = .unk) : ev ts' x = some a := by
  cases x with
  | tmp t =>
    simp only [ev, Option.some.injEq] at h ⊢
    rcases hm t with h1 | h1
    · rw [← h1]; exact h
    · rw [h1] at h; exact absurd h.symm hne
  | _ => exact h
theorem stB_ok {P : Program} {ts ts' : List AV} {mem mem' : List Blk} {t : TypeId} {p x : Operand} {b : Nat} {blk : Blk} {C : Prop} (h : stB P ts mem t p x = some (b, blk, C)) (hm : ∀ t, ts.getD t .unk = ts'.getD t .unk ∨ ts.getD t .unk = .unk)
    (hb : lk mem' b = lk mem b) : evStore P ts' mem' t p x = some (mem'.set b blk, C) ∧ b < mem.length ∧ lk mem b ≠ .dead := by
  unfold stB at h
  split at h
  · rename_i b' q hp
    split at h
    · rename_i m D hst
      simp only [Option.some.injEq, Prod.mk.injEq] at h
      obtain ⟨rfl, rfl, rfl⟩ := h
      unfold evStore at hst ⊢
      rw [hp] at hst
      split at hst
      · rename_i b2 q2 v hp2 hx
        simp only [Option.some.injEq, AV.ptr.injEq] at hp2
        obtain ⟨rfl, rfl⟩ := hp2
        split at hst
        · rename_i hc
          have hv : v ≠ .unk := by intro e; subst e; simp [AV.flat, AV.agg] at hc
          rw [ev_mono hp (by intro e; cases e) hm, ev_mono hx hv hm]
          simp only [if_pos hc, hb]
          have hlt : ∀ y, lk mem b' = y → y ≠ .dead → b' < mem.length := fun y e hy => lk_lt (by rw [e]; exact hy)
          split at hst
          · rename_i T c hlk
            have hl := hlt _ hlk (by intro e; cases e)
            split at hst
            · rename_i c' D' hset
              simp only [Option.some.injEq, Prod.mk.injEq] at hst
              obtain ⟨rfl, rfl⟩ := hst
              refine ⟨?_, hl, by rw [hlk]; intro e; cases e⟩
              simp [hl]
            · cases hst
          · rename_i T e l hlk
            have hl := hlt _ hlk (by intro e; cases e)
            split at hst
            · rename_i n e' l' D' hset
              split at hst
              · rename_i he
                simp only [Option.some.injEq, Prod.mk.injEq] at hst
                obtain ⟨rfl, rfl⟩ := hst
                refine ⟨?_, hl, by rw [hlk]; intro e; cases e⟩
                simp [hl, he]
              · cases hst
            · cases hst
          · rename_i T e l z c hlk
            have hl := hlt _ hlk (by intro e; cases e)
            split at hst
            · split at hst
              · simp only [Option.some.injEq, Prod.mk.injEq] at hst
                obtain ⟨rfl, rfl⟩ := hst
                refine ⟨?_, hl, by rw [hlk]; intro e; cases e⟩
                simp [hl]
              · cases hst
            · cases hst
          · cases hst
        · cases hst
      · cases hst
    · cases h
  · cases h
end Go.Proofs.YtbpjinefbnlenaaGreatDoor
