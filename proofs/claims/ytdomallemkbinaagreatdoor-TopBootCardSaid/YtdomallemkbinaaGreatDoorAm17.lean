/- A machine of values, part 17: results; a function's contract; rows that are frozen; nil as an own row. -/
import Derived.Test.YtdomallemkbinaaGreatDoorAm16
namespace Go.Proofs.YtdomallemkbinaaGreatDoor
open Go Go.RowKit
set_option linter.unusedVariables false

/-- one result -/
def evRes1 (P : Program) (ts : List AV) (mem : List Blk) : ResultVar → Option (AV × Prop)
  | .tmp t => some (ts.getD t .unk, True)
  | .cell a t =>
    match ts.getD a .unk with
    | .ptr b q => evLoad P mem t (.ptr b q)
    | _ => none
def evResL (P : Program) (ts : List AV) (mem : List Blk) : List ResultVar → Option (List AV × Prop)
  | [] => some ([], True)
  | r :: l =>
    match evRes1 P ts mem r, evResL P ts mem l with
    | some (a, C), some (as, D) => if notTup a then some (a :: as, C ∧ D) else none
    | _, _ => none
def tupOf : List AV → AV
  | [] => .nil
  | a :: l => .cons a (tupOf l)
def evRes (P : Program) (ts : List AV) (mem : List Blk) (l : List ResultVar) : Option (AV × Prop) :=
  match evResL P ts mem l with
  | some ([a], C) => some (a, C)
  | some (as, C) => some (.tup (tupOf as), C)
  | none => none
theorem args_vals {w : World} {G : Gh} : ∀ (l : List AV) (vs : List Value), ArgsR w G l vs → ValsR w G (tupOf l) vs
  | [], vs, h => h
  | a :: l, vs, ⟨v, t, e, h1, h2⟩ => ⟨v, t, e, h1, args_vals l t h2⟩
theorem args_length {w : World} {G : Gh} : ∀ (l : List AV) (vs : List Value), ArgsR w G l vs → vs.length = l.length
  | [], vs, h => by simp only [ArgsR] at h; subst h; rfl
  | a :: l, vs, ⟨v, t, e, h1, h2⟩ => by subst e; simp [args_length l t h2]
/-- one result, in the model -/
def resOf (tmps : Array Value) : ResultVar → Sem Value
  | .tmp t => pure (tmps.getD t undef)
  | .cell x t => do loadVar t (← asAddr (tmps.getD x undef))
theorem results_eq (fn : Func) (tmps : Array Value) : results fn tmps = (do let vs ← fn.results.mapM (resOf tmps); pure (if h : vs.size = 1 then vs[0] else .tuple vs)) := by
  unfold results
  congr 1
theorem evRes1_ok {P : Program} {B : Nat} {w : World} {G : Gh} {ts : List AV} {mem : List Blk} {a : Act} {r : ResultVar} {av : AV} {C : Prop} (h : evRes1 P ts mem r = some (av, C)) (hC : C) (hm : MemR B w G mem) (ht : TmpsR w G ts a) :
    ∃ v, (resOf a.tmps r).run P w = .ok v w ∧ ValR w G av v := by
  cases r with
  | tmp t =>
    simp only [evRes1, Option.some.injEq, Prod.mk.injEq] at h
    obtain ⟨rfl, _⟩ := h
    exact ⟨_, rfl, ht.val t⟩
  | cell x t =>
    simp only [evRes1] at h
    split at h
    · rename_i b q hx
      have hv := ht.val x
      rw [hx] at hv
      obtain ⟨v, hr, hv2⟩ := evLoad_ok (P := P) h hC hm hv
      refine ⟨v, ?_, hv2⟩
      have e := val_ptr hv
      rw [e] at hr
      simp only [Instr.loadAt, Instr.sureAddr, Sem.run_bind, Sem.run_pure, Result.andThen_ok] at hr
      simp only [resOf, e, asAddr, Sem.run_bind, Sem.run_pure, Result.andThen_ok]
      exact hr
    · cases h
theorem evResL_ok {P : Program} {B : Nat} {w : World} {G : Gh} {ts : List AV} {mem : List Blk} {a : Act} (hm : MemR B w G mem) (ht : TmpsR w G ts a) : ∀ (l : List ResultVar) (as : List AV) (C : Prop), evResL P ts mem l = some (as, C) → C →
    ∃ vs, (l.mapM (resOf a.tmps)).run P w = .ok vs w ∧ ArgsR w G as vs
  | [], as, C, h, _ => by
    simp only [evResL, Option.some.injEq, Prod.mk.injEq] at h
    obtain ⟨rfl, _⟩ := h
    exact ⟨[], by simp [Sem.run_pure], rfl⟩
  | r :: l, as, C, h, hC => by
    simp only [evResL] at h
    split at h
    · rename_i x D xs E hx hxs
      split at h
      · rename_i hn
        simp only [Option.some.injEq, Prod.mk.injEq] at h
        obtain ⟨rfl, rfl⟩ := h
        obtain ⟨v, h1, h2⟩ := evRes1_ok hx hC.1 hm ht
        obtain ⟨vs, h3, h4⟩ := evResL_ok hm ht l xs E hxs hC.2
        refine ⟨v :: vs, ?_, v, vs, rfl, ValR.to0 h2 (notTup_ok hn), h4⟩
        rw [List.mapM_cons]
        simp only [Sem.run_bind, h1, h3, Result.andThen_ok, Sem.run_pure]
      · cases h
    · cases h
theorem evRes_ok {P : Program} {B : Nat} {w : World} {G : Gh} {ts : List AV} {mem : List Blk} {a : Act} {fn : Func} {av : AV} {C : Prop} (h : evRes P ts mem fn.results.toList = some (av, C)) (hC : C) (hm : MemR B w G mem) (ht : TmpsR w G ts a) :
    ∃ v, (results fn a.tmps).run P w = .ok v w ∧ ValR w G av v := by
  unfold evRes at h
  have run : ∀ as D, evResL P ts mem fn.results.toList = some (as, D) → D → ∃ vs : List Value, ArgsR w G as vs ∧ (results fn a.tmps).run P w = .ok (if h : vs.toArray.size = 1 then vs.toArray[0] else .tuple vs.toArray) w := by
    intro as D hl hD
    obtain ⟨vs, h1, h2⟩ := evResL_ok hm ht _ _ _ hl hD
    refine ⟨vs, h2, ?_⟩
    rw [results_eq, Array.mapM_eq_mapM_toList]
    simp only [Sem.run_bind]
    have e : ∀ (m : Sem (List Value)), m.run P w = .ok vs w → ((List.toArray <$> m : Sem (Array Value))).run P w = .ok vs.toArray w := by
      intro m hm
      rw [map_eq_pure_bind]
      simp only [Sem.run_bind, hm, Result.andThen_ok, Sem.run_pure]
    rw [e _ h1]
    simp only [Result.andThen_ok, Sem.run_pure]
  split at h
  · rename_i x D hl
    simp only [Option.some.injEq, Prod.mk.injEq] at h
    obtain ⟨rfl, rfl⟩ := h
    obtain ⟨vs, h2, h3⟩ := run _ _ hl hC
    obtain ⟨v, t, rfl, h4, h5⟩ := h2
    simp only [ArgsR] at h5
    subst h5
    refine ⟨v, h3, ?_⟩
    have hn : notTup x = true := by
      clear run
      cases hr : fn.results.toList with
      | nil => rw [hr] at hl; simp [evResL] at hl
      | cons r l =>
        rw [hr] at hl
        simp only [evResL] at hl
        split at hl
        · split at hl
          · rename_i hn
            simp only [Option.some.injEq, Prod.mk.injEq, List.cons.injEq] at hl
            obtain ⟨⟨rfl, _⟩, _⟩ := hl
            exact hn
          · cases hl
        · cases hl
    exact ValR.of0 h4 (notTup_ok hn)
  · rename_i as D hne hl
    simp only [Option.some.injEq, Prod.mk.injEq] at h
    obtain ⟨rfl, rfl⟩ := h
    obtain ⟨vs, h2, h3⟩ := run _ _ hl hC
    refine ⟨.tuple vs.toArray, ?_, vs.toArray, rfl, by simpa using args_vals _ _ h2⟩
    rw [h3, dif_neg]
    intro h1
    have hlen := args_length _ _ h2
    have : as.length = 1 := by rw [← hlen]; simpa using h1
    obtain ⟨x, rfl⟩ := list_one this
    exact hne x rfl
  · cases h
/-- the end of a function that gives this result, with these new blocks -/
def Fin (P : Program) (fn : Func) (w0 : World) (fz0 : Nat → Prop) (res : AV) (new : List Blk) : Exit → Act → World → Prop :=
  bodyPost P fn fun e w' => w0.drawn = w0.heap.size → ∃ v G', e = .returned v ∧ NewR w0 w' (G0 fz0) G' 0 new ∧ ValR w' G' res v
theorem fin_core {P : Program} {fn : Func} {w0 : World} {fz0 : Nat → Prop} {ts : List AV} {new : List Blk} {res : AV} {G : Gh} {a : Act} {w : World} {v : Value} (hs : StR w0.drawn w0 fz0 ts new G a w) (h1 : (results fn a.tmps).run P w = .ok v w) (h2 : ValR w G res v) (hr : refsLt new.length res = true) :
    a.defers = [] ∧ ∃ v, (results fn a.tmps).run P w = .ok v w ∧ (w0.drawn = w0.heap.size → ∃ v' G', Ending.returned v = .returned v' ∧ NewR w0 w (G0 fz0) G' 0 new ∧ ValR w G' res v') := by
  refine ⟨hs.defers, v, h1, fun hB => ?_⟩
  rw [hB] at hs
  refine ⟨v, ⟨fun i => if i < new.length then G.addr i else default, fun i => if i < new.length then G.rowv i else undef, G.fz⟩, rfl, ?_, ?_⟩
  · have hag : ∀ i, i < new.length → Agree G ⟨fun i => if i < new.length then G.addr i else default, fun i => if i < new.length then G.rowv i else undef, G.fz⟩ i := fun i hi => ⟨by simp [hi], by simp [hi]⟩
    have hk : Keeps G.fz G.fz w w := ⟨Nat.le_refl _, fun _ _ _ => rfl, fun _ h => h⟩
    have hlv : ∀ j x, (lk new j).live ⟨fun i => if i < new.length then G.addr i else default, fun i => if i < new.length then G.rowv i else undef, G.fz⟩ (0 + j) = some x → (lk new j).live G j = some x := by
      intro j x hj
      rw [Nat.zero_add] at hj
      by_cases hjl : j < new.length
      · rw [live_agree (lk new j) (hag j hjl)] at hj; exact hj
      · rw [lk_big (by omega)] at hj; cases hj
    refine ⟨hs.below, fun i hi => ?_, hs.fz1, fun b hb => ?_, fun j => ?_, fun j k x hjk hj hk' => hs.mem.apart j k x hjk (hlv j x hj) (hlv k x hk'), fun j x hj => hs.mem.own j x (hlv j x hj)⟩
    · have hi' : ¬ i < new.length := by omega
      exact ⟨by simp [hi', G0], by simp [hi', G0]⟩
    · rcases hs.fz2.1 b hb with h | h
      · exact .inl h
      · exact .inr ⟨h, hs.mem.fz b hb⟩
    · rw [Nat.zero_add]
      by_cases hjl : j < new.length
      · exact (hs.mem.blk j).keep (G := G) (G' := ⟨fun i => if i < new.length then G.addr i else default, fun i => if i < new.length then G.rowv i else undef, G.fz⟩) hk (hag j hjl) (fun r hr => hag r (hs.rm j r hr)) (Nat.le_refl _) (fun _ _ => rfl)
      · rw [lk_big (by omega)]; trivial
  · exact ValR.keep (G := G) (G' := ⟨fun i => if i < new.length then G.addr i else default, fun i => if i < new.length then G.rowv i else undef, G.fz⟩) ⟨Nat.le_refl _, fun _ _ _ => rfl, fun _ h => h⟩ res v (fun r hr' => ⟨by simp [refsLt_ok hr r hr'], by simp [refsLt_ok hr r hr']⟩) h2
/-- the outcome of a function that ends here: its result, the blocks that it keeps -/
def finChk (P : Program) (keep : List Nat) (ts : List AV) (mem : List Blk) (l : List ResultVar) : Option (AV × List Blk × Prop) :=
  match evRes P ts mem l, re keep [] ts mem with
  | some (res, C), some (_, new) => if refsLt new.length (res.ren (findIx keep)) = true then some (res.ren (findIx keep), new, C) else none
  | _, _ => none
theorem X.fin {P : Program} {fn : Func} {w0 : World} {fz0 : Nat → Prop} {ts : List AV} {mem new : List Blk} {res : AV} {keep : List Nat} {C : Prop} (h : finChk P keep ts mem fn.results.toList = some (res, new, C)) (hC : C) :
    X P w0.drawn w0 fz0 .ret ts mem (Fin P fn w0 fz0 res new) ∧ X P w0.drawn w0 fz0 .normal ts mem (Fin P fn w0 fz0 res new) := by
  unfold finChk at h
  split at h
  · rename_i r D ts2 new2 hr1 hre
    split at h
    · rename_i hlt
      simp only [Option.some.injEq, Prod.mk.injEq] at h
      obtain ⟨rfl, rfl, rfl⟩ := h
      have main : ∀ G a w, StR w0.drawn w0 fz0 ts mem G a w → a.defers = [] ∧ ∃ v, (results fn a.tmps).run P w = .ok v w ∧ (w0.drawn = w0.heap.size → ∃ v' G', Ending.returned v = .returned v' ∧ NewR w0 w (G0 fz0) G' 0 new2 ∧ ValR w G' (r.ren (findIx keep)) v') := by
        intro G a w hs
        obtain ⟨v, h1, h2⟩ := evRes_ok hr1 hC hs.mem hs.tmps
        obtain ⟨G', hs', hren⟩ := re_weak' hre hs
        exact fin_core hs' h1 (ValR.ren hren _ _ h2) hlt
      exact ⟨fun G a w hs => main G a w hs, fun G a w hs => main G a w hs⟩
    · cases h
  · cases h
/-- a function, from its code -/
theorem PureC.mk {P : Program} {f : Nat} {fn : Func} {c : Code} {args : List AV} {res : AV} {new : List Blk} (hf : P.funcs[f]? = some fn) (hb : fn.body = some c) (hr : args.all (fun a => a.refs.isEmpty && notTup a) = true)
    (h : ∀ (w0 : World) (fz0 : Nat → Prop), (∀ b, fz0 b → b < w0.heap.size) → T P w0.drawn w0 fz0 c (args ++ List.replicate (fn.ntmps - args.length) .unk) [] (Fin P fn w0 fz0 res new)) : PureC P f args res new := by
  intro w fz vs hfb hargs
  obtain ⟨hfz, hbs⟩ := hfb
  refine Calls.mono (R := fun e w' => ({ w with drawn := w.heap.size } : World).drawn = ({ w with drawn := w.heap.size } : World).heap.size → ∃ v G', e = .returned v ∧ NewR { w with drawn := w.heap.size } w' (G0 fz) G' 0 new ∧ ValR w' G' res v) ?_ (fun e w' h => ?_)
  rotate_left
  · obtain ⟨v, G', h1, h2, h3⟩ := h rfl
    exact ⟨v, G', h1, ⟨⟨h2.below.os, h2.below.tape, h2.below.output, h2.below.size, h2.below.block⟩, h2.agree, h2.fz1, h2.fz2, h2.blk, h2.apart, h2.own⟩, h3⟩
  refine calls_of_wp hf hb ?_
  rw [List.all_eq_true] at hr
  have hlen := args_length _ _ hargs
  refine h { w with drawn := w.heap.size } fz hfz (G0 fz) _ w ⟨fun t r hr' => ?_, fun i r hr' => ?_, ⟨?_, fun t => ?_⟩, ⟨fun i => trivial, fun i j x _ h1 => by simp [lk, Blk.live] at h1, fun i x h1 => by simp [lk, Blk.live] at h1, hfz, hbs⟩, ⟨rfl, rfl, rfl, Nat.le_refl _, fun _ _ => rfl⟩, rfl, fun _ h => h, fun _ h => .inl h, fun _ _ _ => rfl⟩
  · exfalso
    rw [List.getD_eq_getElem?_getD] at hr'
    rcases Nat.lt_or_ge t args.length with h1 | h1
    · rw [List.getElem?_append_left h1, List.getElem?_eq_getElem h1] at hr'
      have := hr args[t] (List.getElem_mem h1)
      simp only [Bool.and_eq_true, List.isEmpty_iff] at this
      simp [this.1] at hr'
    · rw [List.getElem?_append_right h1, List.getElem?_replicate] at hr'
      split at hr' <;> simp [AV.refs] at hr'
  · simp [lk, Blk.refs] at hr'
  · simp [hlen]
  · have main : ∀ (l : List AV) (vs : List Value), (∀ a ∈ l, notTup a = true) → ArgsR w (G0 fz) l vs → ∀ t, t < l.length → ValR w (G0 fz) (l.getD t .unk) (vs.getD t undef) := by
      intro l
      induction l with
      | nil => intro vs _ _ t ht; simp at ht
      | cons a l ih =>
        intro vs hn hA t ht
        obtain ⟨v, t', rfl, h1, h2⟩ := hA
        cases t with
        | zero => exact ValR.of0 h1 (notTup_ok (hn a (by simp)))
        | succ t => simpa using ih t' (fun x hx => hn x (by simp [hx])) h2 t (by simpa using ht)
    rcases Nat.lt_or_ge t args.length with h1 | h1
    · have := main args vs (fun a ha => by have := hr a ha; simp only [Bool.and_eq_true] at this; exact this.2) hargs t h1
      have e1 : (args ++ List.replicate (fn.ntmps - args.length) AV.unk).getD t .unk = args.getD t .unk := by
        simp only [List.getD_eq_getElem?_getD, List.getElem?_append_left h1]
      have e2 : (vs.toArray ++ Array.replicate (fn.ntmps - vs.toArray.size) undef).getD t undef = vs.getD t undef := by
        have h2 : t < vs.toArray.size := by simp [hlen]; exact h1
        simp only [Array.getD_eq_getD_getElem?, List.getD_eq_getElem?_getD, Array.getElem?_append_left h2]
        simp
      rw [e1]
      show ValR w (G0 fz) (args.getD t .unk) ((vs.toArray ++ Array.replicate (fn.ntmps - vs.toArray.size) undef).getD t undef)
      rw [e2]
      exact this
    · have e1 : (args ++ List.replicate (fn.ntmps - args.length) AV.unk).getD t .unk = .unk := by
        simp only [List.getD_eq_getElem?_getD, List.getElem?_append_right h1, List.getElem?_replicate]
        split <;> rfl
      rw [e1]
      trivial
end Go.Proofs.YtdomallemkbinaaGreatDoor
