/- A machine of values, part 15: operations one behind the other. -/
import Derived.Test.YtdomallemkbinaaGreatDoorAm14d
namespace Go.Proofs.YtdomallemkbinaaGreatDoor
open Go Go.RowKit
set_option linter.unusedVariables false

theorem memPut_end : ∀ (mem new : List Blk), memPut mem mem.length new = mem ++ new
  | [], new => by cases new <;> rfl
  | x :: mem, new => by
    show memPutB (mem.length + 1) (x :: mem) new = _
    have := memPut_end mem new
    simp only [memPut] at this
    simp only [memPutB, List.headD_cons, List.tail_cons, this, List.cons_append]
/-- the whole state -/
structure StR (B : Nat) (w0 : World) (fz0 : Nat → Prop) (ts : List AV) (mem : List Blk) (G : Gh) (a : Act) (w : World) : Prop where
  rt : ∀ t r, r ∈ (ts.getD t .unk).refs → r < mem.length
  rm : ∀ i r, r ∈ (lk mem i).refs → r < mem.length
  tmps : TmpsR w G ts a
  mem : MemR B w G mem
  below : Below B w0 w
  defers : a.defers = []
  fz1 : ∀ b, fz0 b → G.fz b
  fz2 : (∀ b, G.fz b → fz0 b ∨ B ≤ b) ∧ ∀ b, fz0 b → b < w0.heap.size → w.heap[b]? = w0.heap[b]?
/-- one operation -/
def evEff (P : Program) (ts : List AV) (mem : List Blk) (o : Oper) (h : Hint) : Option (List AV × List Blk × Prop) :=
  match fxB P ts mem o h with
  | some (b, blk, av, C) => if blkLt mem.length blk = true then some (tput ts o.dst av, mem.set b blk, C) else none
  | none =>
  match o.op with
  | .call { callee := .builtin .append, args := args, argTypes := tys } =>
    match args.toList, tys.toList with
    | [s, x], [t, t'] =>
      if t = t' then
        match evAppend P ts mem s x t with
        | some (av, m, C) => if mem.length ≤ m.length ∧ m.all (blkLt m.length) = true ∧ refsLt m.length av = true then some (tput ts o.dst av, m, C) else none
        | none => none
      else none
    | _, _ => none
  | _ =>
    match evDec P ts mem mem.length o h with
    | some (av, new, C) => if refsLt (mem.length + new.length) av = true ∧ new.all (blkLt (mem.length + new.length)) = true then some (tput ts o.dst av, mem ++ new, C) else none
    | none => none
theorem FxOk.eff {P : Program} {o : Oper} {ts : List AV} {mem : List Blk} {b : Nat} {blk : Blk} {av : AV} {C : Prop} (h : FxOk P o ts mem b blk av C) : EffOp P o ts mem (tput ts o.dst av) (mem.set b blk) C :=
  fun B w G a hC hm ht _ _ next Q hn => h B w G a hC hm ht next Q fun v w' h1 hk h2 hv => hn _ w' G h1 (Fz.refl B G hk) h2 ((ht.keep hk (fun _ _ _ => ⟨rfl, rfl⟩)).put _ hv) (put_defers _ _ _)
theorem tput_refs {ts : List AV} {d : Option Tmp} {av : AV} {n n' : Nat} (h : ∀ t r, r ∈ (ts.getD t .unk).refs → r < n) (hn : n ≤ n') (hav : ∀ r ∈ av.refs, r < n') : ∀ t r, r ∈ ((tput ts d av).getD t .unk).refs → r < n' := by
  intro t r hr
  cases d with
  | none => have := h t r hr; omega
  | some d =>
    simp only [tput, List.getD_eq_getElem?_getD, List.getElem?_set] at hr
    by_cases e : d = t
    · subst e
      by_cases hlt : d < ts.length
      · simp [hlt] at hr; exact hav r hr
      · simp [hlt] at hr; simp [AV.refs] at hr
    · rw [if_neg e] at hr
      have := h t r (by simpa [List.getD_eq_getElem?_getD] using hr)
      omega
theorem all_refs {m : List Blk} {n : Nat} (h : m.all (blkLt n) = true) : ∀ i r, r ∈ (lk m i).refs → r < n := by
  intro i r hr
  rw [List.all_eq_true] at h
  rcases Nat.lt_or_ge i m.length with hlt | hge
  · have hmem : lk m i ∈ m := by
      simp only [lk, List.getD_eq_getElem?_getD, List.getElem?_eq_getElem hlt, Option.getD_some]
      exact List.getElem_mem hlt
    exact blkLt_ok (h _ hmem) r hr
  · rw [lk_big hge] at hr; cases hr
theorem StR.step {P : Program} {B : Nat} {w0 : World} {fz0 : Nat → Prop} {ts ts' : List AV} {mem mem' : List Blk} {o : Oper} {C : Prop} (he : EffOp P o ts mem ts' mem' C) (hrt : (∀ t r, r ∈ (ts.getD t .unk).refs → r < mem.length) → ∀ t r, r ∈ (ts'.getD t .unk).refs → r < mem'.length)
    (hrm : (∀ i r, r ∈ (lk mem i).refs → r < mem.length) → ∀ i r, r ∈ (lk mem' i).refs → r < mem'.length) {G : Gh} {a : Act} {w : World} (hC : C) (hs : StR B w0 fz0 ts mem G a w) (next : Act → World → Prop) (Q : Exit → Act → World → Prop)
    (hn : ∀ a' w' G', StR B w0 fz0 ts' mem' G' a' w' → next a' w') : o.wp P a w next Q :=
  he B w G a hC hs.mem hs.tmps hs.rt hs.rm next Q fun a' w' G' h1 hf h2 h3 h4 => hn a' w' G' ⟨hrt hs.rt, hrm hs.rm, h3, h2, hs.below.trans h1, by rw [h4]; exact hs.defers, fun b h => hf.1 b (hs.fz1 b h), ⟨fun b h => (hf.2.1 b h).elim (hs.fz2.1 b) .inr, fun b h hlt => (hf.2.2 b (hs.fz1 b h) (Nat.lt_of_lt_of_le hlt hs.below.size)).trans (hs.fz2.2 b h hlt)⟩⟩
theorem evEff_ok {P : Program} {B : Nat} {w0 : World} {fz0 : Nat → Prop} {ts ts' : List AV} {mem mem' : List Blk} {o : Oper} {h : Hint} {C : Prop} (he : evEff P ts mem o h = some (ts', mem', C)) {G : Gh} {a : Act} {w : World} (hC : C) (hs : StR B w0 fz0 ts mem G a w) (next : Act → World → Prop) (Q : Exit → Act → World → Prop)
    (hn : ∀ a' w' G', StR B w0 fz0 ts' mem' G' a' w' → next a' w') : o.wp P a w next Q := by
  unfold evEff at he
  split at he
  · rename_i b blk av D hfx
    split at he
    · rename_i hc
      simp only [Option.some.injEq, Prod.mk.injEq] at he
      obtain ⟨rfl, rfl, rfl⟩ := he
      obtain ⟨h1, h2, h3, h4⟩ := fxB_ok hfx
      refine StR.step h1.eff (fun h => ?_) (fun h => ?_) hC hs next Q hn
      · exact tput_refs h (by simp) (fun r hr => by rw [h4 r hr, List.length_set]; exact h2)
      · intro i r hr
        rw [List.length_set]
        rw [lk_set] at hr
        split at hr
        · exact blkLt_ok hc r hr
        · exact h i r hr
    · cases he
  split at he
  · rename_i args tys ho
    split at he
    · rename_i s x t t' hargs htys
      split at he
      · rename_i htt
        subst htt
        split at he
        · rename_i av m D hap
          split at he
          · rename_i hc
            simp only [Option.some.injEq, Prod.mk.injEq] at he
            obtain ⟨rfl, rfl, rfl⟩ := he
            rw [arr2 hargs, arr2 htys] at ho
            refine StR.step (evAppend_ok ho hap) (fun h => ?_) (fun h => ?_) hC hs next Q hn
            · exact tput_refs h hc.1 (refsLt_ok hc.2.2)
            · exact all_refs hc.2.1
          · cases he
        · cases he
      · cases he
    · cases he
  · split at he
    · rename_i av new D hd
      split at he
      · rename_i hc
        simp only [Option.some.injEq, Prod.mk.injEq] at he
        obtain ⟨rfl, rfl, rfl⟩ := he
        have hp := (evDec_ok hd).eff
        rw [memPut_end] at hp
        refine StR.step hp (fun h => ?_) (fun h => ?_) hC hs next Q hn
        · rw [List.length_append]; exact tput_refs h (by omega) (refsLt_ok hc.1)
        · intro i r hr
          rw [List.length_append]
          rw [← memPut_end, lk_memPut] at hr
          split at hr
          · exact all_refs hc.2 _ r hr
          · have := h i r hr; omega
      · cases he
    · cases he
/-- is a guarded operation wanted? -/
def evGuard (ops : List Oper) (ts : List AV) (o : Oper) : Option Bool :=
  match o.guard with
  | none => some true
  | some (j, want) =>
    match (ops[j]?).bind (·.dst) with
    | some d =>
      match ts.getD d .unk with
      | .bool b => some (b == want)
      | .tup .nil => some false
      | _ => none
    | none => none
theorem evGuard_ok {ops : Array Oper} {w : World} {G : Gh} {ts : List AV} {a : Act} {o : Oper} {r : Bool} (ht : TmpsR w G ts a) (h : evGuard ops.toList ts o = some r) : Region.wanted o (yielded ops a.tmps) = r := by
  unfold evGuard at h
  unfold Region.wanted
  split at h
  · rename_i hg
    simp only [Option.some.injEq] at h
    rw [hg]; exact h
  · rename_i j want hg
    rw [hg]
    simp only
    split at h
    · rename_i d hd
      split at h
      · rename_i b hb
        simp only [Option.some.injEq] at h
        have hv := ht.val d
        rw [hb] at hv
        have e := val_bool hv
        have hlt : d < a.tmps.size := by
          rw [ht.size]
          rcases Nat.lt_or_ge d ts.length with h1 | h1
          · exact h1
          · rw [List.getD_eq_getElem?_getD, List.getElem?_eq_none h1] at hb; cases hb
        have e2 : a.tmps[d]? = some (.bool b) := by
          rw [Array.getD_eq_getD_getElem?, Array.getElem?_eq_getElem hlt] at e
          rw [Array.getElem?_eq_getElem hlt]
          simpa using e
        have hd' : (ops[j]?).bind (·.dst) = some d := by simpa using hd
        unfold yielded
        rw [hd']
        simp only [Option.bind_some, e2]
        rw [← h]
        cases b <;> cases want <;> rfl
      · rename_i hb
        simp only [Option.some.injEq] at h
        have hv := ht.val d
        rw [hb] at hv
        obtain ⟨vs, hv, hvs⟩ := (show ∃ vs, a.tmps.getD d undef = .tuple vs ∧ ValsR w G .nil vs.toList from hv)
        have hd' : (ops[j]?).bind (·.dst) = some d := by simpa using hd
        unfold yielded
        rw [hd']
        simp only [Option.bind_some]
        rw [← h]
        cases hq : a.tmps[d]? with
        | none => simp
        | some q =>
          rw [Array.getD_eq_getD_getElem?, hq] at hv
          simp only [Option.getD_some] at hv
          subst hv
          simp
      · cases h
    · cases h
/-- operations, one behind the other -/
def evOps (P : Program) (all : List Oper) : List Oper → List Hint → List AV → List Blk → Option (List AV × List Blk × Prop)
  | [], _, ts, mem => some (ts, mem, True)
  | o :: l, hs, ts, mem =>
    match evGuard all ts o with
    | some true =>
      match evEff P ts mem o (hs.headD .none) with
      | some (ts', mem', C) =>
        match evOps P all l hs.tail ts' mem' with
        | some (t, m, D) => some (t, m, C ∧ D)
        | none => none
      | none => none
    | some false => evOps P all l hs.tail (tput ts o.dst (.tup .nil)) mem
    | none => none
/-- from the k-th operation on -/
def TO (P : Program) (B : Nat) (w0 : World) (fz0 : Nat → Prop) (ops : Array Oper) (k : Nat) (ts : List AV) (mem : List Blk) (Q : Exit → Act → World → Prop) : Prop :=
  ∀ G a w, StR B w0 fz0 ts mem G a w → wpOps P ops Q (List.range' k (ops.size - k)) a w
/-- an exit in this state -/
def X (P : Program) (B : Nat) (w0 : World) (fz0 : Nat → Prop) (e : Exit) (ts : List AV) (mem : List Blk) (Q : Exit → Act → World → Prop) : Prop := ∀ G a w, StR B w0 fz0 ts mem G a w → Q e a w
theorem TO.nil {P : Program} {B : Nat} {w0 : World} {fz0 : Nat → Prop} {ops : Array Oper} {k : Nat} {ts : List AV} {mem : List Blk} {Q : Exit → Act → World → Prop} (hk : ops.size ≤ k) (h : X P B w0 fz0 .normal ts mem Q) : TO P B w0 fz0 ops k ts mem Q := by
  intro G a w hs
  rw [show ops.size - k = 0 by omega]
  exact h G a w hs
theorem TO.run {P : Program} {B : Nat} {w0 : World} {fz0 : Nat → Prop} {ops : Array Oper} {Q : Exit → Act → World → Prop} : ∀ (l : List Oper) (k : Nat) (hs : List Hint) (ts ts' : List AV) (mem mem' : List Blk) (C : Prop), (ops.toList.drop k).take l.length = l →
    evOps P ops.toList l hs ts mem = some (ts', mem', C) → C → TO P B w0 fz0 ops (k + l.length) ts' mem' Q → TO P B w0 fz0 ops k ts mem Q
  | [], k, hs, ts, ts', mem, mem', C, hl, he, hC, hn => by
    simp only [evOps, Option.some.injEq, Prod.mk.injEq] at he
    obtain ⟨rfl, rfl, _⟩ := he
    exact hn
  | o :: l, k, hs, ts, ts', mem, mem', C, hl, he, hC, hn => by
    have hok : ops[k]? = some o := by
      have : ((ops.toList.drop k).take (l.length + 1))[0]? = some o := by
        rw [show l.length + 1 = (o :: l).length from rfl, hl]; rfl
      rw [List.getElem?_take] at this
      simpa using this
    have hlt : k < ops.size := (Array.getElem?_eq_some_iff.1 hok).1
    have hl2 : (ops.toList.drop (k + 1)).take l.length = l := by
      have e : ops.toList.drop k = o :: ops.toList.drop (k + 1) := by
        have hlt' : k < ops.toList.length := by simpa using hlt
        rw [List.drop_eq_getElem_cons hlt']
        congr 1
        have := (Array.getElem?_eq_some_iff.1 hok).2
        simpa using this
      rw [e, List.length_cons, List.take_succ_cons] at hl
      exact (List.cons.inj hl).2
    intro G a w hst
    rw [show ops.size - k = (ops.size - (k + 1)) + 1 by omega, List.range'_succ]
    simp only [wpOps, hok]
    simp only [evOps] at he
    split at he
    · rename_i hg
      rw [evGuard_ok hst.tmps hg]
      simp only [if_true]
      split at he
      · rename_i t1 m1 C1 h1
        split at he
        · rename_i t2 m2 C2 h2
          simp only [Option.some.injEq, Prod.mk.injEq] at he
          obtain ⟨rfl, rfl, rfl⟩ := he
          refine .inl (evEff_ok h1 hC.1 hst _ Q fun a' w' G' hs' => ?_)
          exact TO.run l (k + 1) hs.tail t1 t2 m1 m2 C2 hl2 h2 hC.2 (by rw [show k + 1 + l.length = k + (o :: l).length by simp; omega]; exact hn) G' a' w' hs'
        · cases he
      · cases he
    · rename_i hg
      rw [evGuard_ok hst.tmps hg]
      simp only [Bool.false_eq_true, if_false]
      refine TO.run l (k + 1) hs.tail _ ts' mem mem' C hl2 he hC (by rw [show k + 1 + l.length = k + (o :: l).length by simp; omega]; exact hn) G _ w ?_
      exact ⟨tput_refs hst.rt (Nat.le_refl _) (by simp [AV.refs]), hst.rm, hst.tmps.put _ ⟨#[], rfl, rfl⟩, hst.mem, hst.below, by rw [put_defers]; exact hst.defers, hst.fz1, hst.fz2⟩
    · cases he
/-- code, from this state -/
def T (P : Program) (B : Nat) (w0 : World) (fz0 : Nat → Prop) (c : Code) (ts : List AV) (mem : List Blk) (Q : Exit → Act → World → Prop) : Prop := ∀ G a w, StR B w0 fz0 ts mem G a w → c.wp P Q a w
theorem T.region {P : Program} {B : Nat} {w0 : World} {fz0 : Nat → Prop} {id : Nat} {ops : Array Oper} {ts : List AV} {mem : List Blk} {Q : Exit → Act → World → Prop} (h : TO P B w0 fz0 ops 0 ts mem Q) : T P B w0 fz0 (.region id ops false) ts mem Q := by
  intro G a w hs
  refine wp_region ?_
  have := h G a w hs
  rw [Nat.sub_zero] at this
  rw [List.range_eq_range']
  exact this
/-- a whole region, its operations in their order -/
theorem T.reg {P : Program} {B : Nat} {w0 : World} {fz0 : Nat → Prop} {id : Nat} {ops : Array Oper} {ts ts' : List AV} {mem mem' : List Blk} {C : Prop} {Q : Exit → Act → World → Prop} (hs : List Hint) (he : evOps P ops.toList ops.toList hs ts mem = some (ts', mem', C)) (hC : C) (hn : X P B w0 fz0 .normal ts' mem' Q) : T P B w0 fz0 (.region id ops false) ts mem Q :=
  T.region (TO.run ops.toList 0 hs ts ts' mem mem' C (by rw [List.drop_zero, List.take_length]) he hC (TO.nil (by simp) hn))
end Go.Proofs.YtdomallemkbinaaGreatDoor
