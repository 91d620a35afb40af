/- A machine of values, part 11: the call; all pure operations in one. -/
import Derived.Test.YtbpjinefbnlenaaGreatDoorAm10
namespace Go.Proofs.YtbpjinefbnlenaaGreatDoor
open Go Go.RowKit
set_option linter.unusedVariables false

def lendAll (mem : List Blk) : List AV → Option (List AV × Prop)
  | [] => some ([], True)
  | a :: l =>
    match lend mem a, lendAll mem l with
    | some (x, C), some (xs, D) => some (x :: xs, C ∧ D)
    | _, _ => none
theorem lend_val {B : Nat} {w : World} {G : Gh} {mem : List Blk} (hm : MemR B w G mem) (a x : AV) (C : Prop) (v : Value) (h : lend mem a = some (x, C)) (hC : C) (hc : ValR0 w G a v) : ValR0 w (G0 (allF w)) x v := by
  have flat : ∀ a : AV, (∀ y C, lend mem a = some (y, C) → y.flat = true) → CellsR w G a [v] → lend mem a = some (x, C) → ValR0 w (G0 (allF w)) x v := fun a hf hc h =>
    (ValR0.flat (hf x C h)).2 (lend_ok hm a x C [v] h hC hc)
  cases a with
  | st a =>
    simp only [lend, Option.map_eq_some_iff, Prod.mk.injEq, Prod.exists] at h
    obtain ⟨u, D, hu, rfl, rfl⟩ := h
    obtain ⟨cs, e, h1⟩ := hc
    exact ⟨cs, e, lend_ok hm a u D _ hu hC h1⟩
  | arr n e l =>
    simp only [lend, lendC, Option.map_some, Option.some.injEq, Prod.mk.injEq] at h
    obtain ⟨rfl, _⟩ := h
    obtain ⟨cs, e', h1⟩ := hc
    exact ⟨cs, e', ShR.refz (.arr n e) l _ (.inr hm.fz) h1⟩
  | unk => simp only [lend, lendC, Option.map_some, Option.some.injEq, Prod.mk.injEq] at h; obtain ⟨rfl, _⟩ := h; trivial
  | tup a => exact hc.elim
  | nil => simp only [lend, lendC, Option.map_some, Option.some.injEq, Prod.mk.injEq] at h; obtain ⟨rfl, _⟩ := h; exact hc
  | cons a b =>
    have := lend_ok hm _ x C [v] h hC hc
    simp only [lend] at h
    split at h
    · simp only [Option.some.injEq, Prod.mk.injEq] at h; obtain ⟨rfl, _⟩ := h; exact this
    · cases h
  | row r =>
    refine flat _ (fun y D hy => ?_) hc h
    simp only [lend, lendC, Option.map_eq_some_iff, Prod.mk.injEq] at hy
    obtain ⟨z, hz, rfl, _⟩ := hy
    split at hz
    · simp only [Option.some.injEq] at hz; subst hz; rfl
    · cases hz
  | ptr b q =>
    refine flat _ (fun y D hy => ?_) hc h
    simp only [lend] at hy
    split at hy
    · split at hy
      · split at hy
        · simp only [Option.map_eq_some_iff, Prod.mk.injEq] at hy
          obtain ⟨z, hz, rfl, _⟩ := hy
          rfl
        · cases hy
      · cases hy
    · cases hy
  | fn f c =>
    refine flat _ (fun y D hy => ?_) hc h
    simp only [lend, Option.map_eq_some_iff, Prod.mk.injEq, Prod.exists] at hy
    obtain ⟨u, D, hu, rfl, rfl⟩ := hy
    rfl
  | pv c =>
    refine flat _ (fun y D hy => ?_) hc h
    simp only [lend, lendC, Option.map_eq_some_iff, Prod.mk.injEq] at hy
    obtain ⟨z, hz, rfl, _⟩ := hy
    split at hz
    · simp only [Option.some.injEq] at hz; subst hz; rfl
    · cases hz
  | sub r size lo n =>
    refine flat _ (fun y D hy => ?_) hc h
    simp only [lend, lendC, Option.map_eq_some_iff, Prod.mk.injEq] at hy
    obtain ⟨z, hz, rfl, _⟩ := hy
    split at hz
    · split at hz
      · simp only [Option.some.injEq] at hz; subst hz; rfl
      · cases hz
    · cases hz
  | mp r => cases h
  | slf b z => cases h
  | _ =>
    refine flat _ (fun y D hy => ?_) hc h
    simp only [lend, lendC, Option.map_some, Option.some.injEq, Prod.mk.injEq] at hy
    obtain ⟨rfl, _⟩ := hy
    rfl
theorem lendAll_ok {B : Nat} {w : World} {G : Gh} {mem : List Blk} (hm : MemR B w G mem) : ∀ (l l' : List AV) (C : Prop) (vs : List Value), lendAll mem l = some (l', C) → C → ArgsR w G l vs → ArgsR w (G0 (allF w)) l' vs
  | [], l', C, vs, h, _, hc => by simp only [lendAll, Option.some.injEq, Prod.mk.injEq] at h; obtain ⟨rfl, _⟩ := h; exact hc
  | a :: l, l', C, vs, h, hC, hc => by
    simp only [lendAll] at h
    split at h
    · rename_i x D xs E hx hxs
      simp only [Option.some.injEq, Prod.mk.injEq] at h
      obtain ⟨rfl, rfl⟩ := h
      obtain ⟨v, t, e, h1, h2⟩ := hc
      exact ⟨v, t, e, lend_val hm a x D v hx hC.1 h1, lendAll_ok hm l xs E t hxs hC.2 h2⟩
    · cases h
theorem args_norefs {w : World} {G : Gh} : ∀ (l : List AV) (vs : List Value), (∀ a ∈ l, a.refs = []) → ArgsR w G l vs → ArgsR w (G0 G.fz) l vs
  | [], _, _, h => h
  | a :: l, vs, hr, h => by
    obtain ⟨v, t, e, h1, h2⟩ := h
    refine ⟨v, t, e, ?_, args_norefs l t (fun x hx => hr x (by simp [hx])) h2⟩
    have ha := hr a (by simp)
    cases a with
    | st a => obtain ⟨cs, e', h1⟩ := h1; exact ⟨cs, e', CellsR.norefs (fun _ h => h) a _ ha h1⟩
    | arr n e l => exact h1
    | unk => trivial
    | _ => exact CellsR.norefs (fun _ h => h) _ _ ha h1
def refsLt (n : Nat) (a : AV) : Bool := a.refs.all (fun r => decide (r < n))
theorem refsLt_ok {n : Nat} {a : AV} (h : refsLt n a = true) : ∀ r ∈ a.refs, r < n := by
  intro r hr
  unfold refsLt at h
  rw [List.all_eq_true] at h
  simpa using h r hr
def blkLt (n : Nat) (b : Blk) : Bool := b.refs.all (fun r => decide (r < n))
theorem blkLt_ok {n : Nat} {b : Blk} (h : blkLt n b = true) : ∀ r ∈ b.refs, r < n := by
  intro r hr
  unfold blkLt at h
  rw [List.all_eq_true] at h
  simpa using h r hr
/-- the new blocks of a call, in the caller's numbers -/
def callGh (G G' : Gh) (base len : Nat) (fz : Nat → Prop) : Gh :=
  ⟨fun i => if base ≤ i ∧ i < base + len then G'.addr (i - base) else G.addr i, fun i => if base ≤ i ∧ i < base + len then G'.rowv (i - base) else G.rowv i, fz⟩
theorem callGh_shifts (G G' : Gh) (base len : Nat) (fz : Nat → Prop) : Shifts G' (callGh G G' base len fz) base len := by
  constructor <;> intro i hi <;> simp only [callGh]
  · rw [if_pos (by omega), Nat.add_sub_cancel]
  · rw [if_pos (by omega), Nat.add_sub_cancel]
theorem lk_map (new : List Blk) (n j : Nat) : lk (new.map (Blk.shift n)) j = (lk new j).shift n := by
  simp only [lk, List.getD_eq_getElem?_getD, List.getElem?_map]
  cases new[j]? <;> rfl
theorem Sh.av_shift (n : Nat) : ∀ (s : Sh) (x : s.T), (s.av x).shift n = s.av x
  | .int _, _ | .bool, _ | .str, _ | .unit, _ | .arr _ _, _ | .sl _, _ => rfl
  | .pair a b, x => by simp [Sh.av, AV.shift, Sh.av_shift n a, Sh.av_shift n b]
  | .st a, x => by simp [Sh.av, AV.shift, Sh.av_shift n a]
theorem Sh.av_noView : ∀ (s : Sh) (x : s.T), (s.av x).noView = s.noView
  | .int _, _ | .bool, _ | .str, _ | .unit, _ | .arr _ _, _ | .sl _, _ => rfl
  | .pair a b, x => by simp [Sh.av, AV.noView, Sh.noView, Sh.av_noView a, Sh.av_noView b]
  | .st a, x => by simp [Sh.av, AV.noView, Sh.noView, Sh.av_noView a]
theorem call_new {w w' : World} {G G' : Gh} {fzc fz2 : Nat → Prop} {base : Nat} {new : List Blk} (hn : NewR w w' (G0 fzc) G' 0 new) (hr : ∀ b ∈ new, ∀ r ∈ b.refs, r < new.length)
    (hf : (∀ b ∈ new, b.noView = true) ∨ ∀ b, G'.fz b → fz2 b) (h1 : ∀ b, G.fz b → fz2 b) (h2 : ∀ b, fz2 b → G.fz b ∨ (w.heap.size ≤ b ∧ b < w'.heap.size)) (h3 : ∀ x, w.heap.size ≤ x → ¬ G'.fz x → ¬ fz2 x) :
    NewR w w' G (callGh G G' base new.length fz2) base (new.map (Blk.shift base)) := by
  have hs := callGh_shifts G G' base new.length fz2
  have hlt : ∀ (j : Nat), j < new.length → (callGh G G' base new.length fz2).addr (base + j) = G'.addr j ∧ (callGh G G' base new.length fz2).rowv (base + j) = G'.rowv j := by
    intro j hj
    rw [Nat.add_comm base j]
    exact ⟨hs.addr j hj, hs.rowv j hj⟩
  have hmem : ∀ j, j < new.length → lk new j ∈ new := by
    intro j hj
    simp only [lk, List.getD_eq_getElem?_getD, List.getElem?_eq_getElem hj, Option.getD_some]
    exact List.getElem_mem hj
  have hdead : ∀ j, ¬ j < new.length → lk new j = .dead := by
    intro j hj
    simp only [lk, List.getD_eq_getElem?_getD, List.getElem?_eq_none (Nat.not_lt.1 hj), Option.getD_none]
  have hlive : ∀ j x, (lk (new.map (Blk.shift base)) j).live (callGh G G' base new.length fz2) (base + j) = some x → (lk new j).live G' (0 + j) = some x := by
    intro j x h
    rw [lk_map] at h
    by_cases hj : j < new.length
    · obtain ⟨e1, e2⟩ := hlt j hj
      rw [Nat.zero_add]
      revert h
      cases lk new j with
      | dead => intro h; cases h
      | box t c => intro h; simp only [Blk.shift, Blk.live, e1] at h ⊢; exact h
      | row t e l => intro h; simp only [Blk.shift, Blk.live, e2] at h ⊢; exact h
      | bbuf t e l => intro h; simp only [Blk.shift, Blk.live, e2] at h ⊢; exact h
      | rowl t e l x => intro h; rcases x with _ | ⟨z, c⟩ <;> (simp only [Blk.shift, Blk.live, e2] at h ⊢; exact h)
      | sav ts a => intro h; cases h
      | iter s p => intro h; simp only [Blk.shift, Blk.live, e1] at h ⊢; exact h
      | map t k e l => intro h; simp only [Blk.shift, Blk.live, e1] at h ⊢; exact h
    · rw [hdead j hj] at h; cases h
  refine ⟨hn.below, fun i hi => ?_, h1, h2, fun j => ?_, fun j k x hjk ha hb => hn.apart j k x hjk (hlive j x ha) (hlive k x hb), fun j x h => ?_⟩
  · rw [List.length_map] at hi
    constructor <;> simp only [callGh] <;> rw [if_neg (by omega)]
  · rw [lk_map]
    by_cases hj : j < new.length
    · obtain ⟨e1, e2⟩ := hlt j hj
      have hb := hn.blk j
      rw [Nat.zero_add] at hb
      have hmj := hmem j hj
      have hrj := hr _ hmj
      have hvj : (lk new j).noView = true ∨ ∀ b, G'.fz b → fz2 b := hf.imp (fun h => h _ hmj) id
      revert hb hrj hvj
      cases lk new j with
      | dead => intros; trivial
      | box t c =>
        rintro ⟨b1, cs, b2, b3⟩ hrj hvj
        refine ⟨by rw [e1]; exact b1, cs, by rw [e1]; exact b2, CellsR.shift hs c cs hrj hvj b3⟩
      | iter s p =>
        rintro ⟨b1, b2⟩ hrj hvj
        exact ⟨by rw [e1]; exact b1, by rw [e1]; exact b2⟩
      | map t k e l =>
        rintro ⟨es, clock, b1, b2⟩ hrj hvj
        simp only [Blk.noView, Bool.and_eq_true] at hvj
        refine ⟨es, clock, by rw [e1]; exact b1, AllR.mono (fun x y hxy => ⟨?_, ?_⟩) _ _ b2⟩
        · have := ValR0.shift hs (k.av x.1) y.key (by rw [Sh.av_refs]; simp) (by rw [Sh.av_noView]; exact hvj.imp (fun h => h.1) id) hxy.1
          rwa [Sh.av_shift] at this
        · have := ValR0.shift hs (e.av x.2) y.val (by rw [Sh.av_refs]; simp) (by rw [Sh.av_noView]; exact hvj.imp (fun h => h.2) id) hxy.2
          rwa [Sh.av_shift] at this
      | sav ts a =>
        rintro ⟨⟨b1, b2⟩, b3⟩ hrj hvj
        refine ⟨⟨by rw [List.length_map]; exact b1, fun t => ?_⟩, b3⟩
        have e1 : (ts.map (AV.shift base)).getD t .unk = (ts.getD t .unk).shift base := by
          simp only [List.getD_eq_getElem?_getD, List.getElem?_map]
          cases ts[t]? <;> rfl
        rw [e1]
        exact ValR.shift hs _ _ (fun r hr => hrj r (sav_refs hr)) (.inr (hvj.resolve_left (by simp [Blk.noView]))) (b2 t)
      | row t e l =>
        rintro ⟨b1, cs, b2, b3⟩ hrj hvj
        refine ⟨fun g hg => by rw [e1]; rw [e2] at hg; exact b1 g hg, cs, by rw [e2]; exact b2, CatR.mono (fun y c hy => ShR.refz e y c hvj hy) _ _ b3⟩
      | rowl t e l x =>
        rintro ⟨b1, c1, c2, b2, b3, b4⟩ hrj hvj
        rcases x with _ | ⟨z, c⟩
        · exact ⟨by rw [e1, e2]; exact b1, c1, c2, by rw [e2]; exact b2, CatR.mono (fun y c hy => ShR.refz e y c hvj hy) _ _ b3, b4⟩
        · have hf2 := hvj.resolve_left (by simp [Blk.noView])
          exact ⟨by rw [e1, e2]; exact b1, c1, c2, by rw [e2]; exact b2, CatR.mono (fun y c hy => ShR.refz e y c (.inr hf2) hy) _ _ b3, fun hz => CellsR.shift hs c c2 hrj (.inr hf2) (b4.1 hz), b4.2⟩
      | bbuf t e l =>
        rintro ⟨⟨b1, cs, b2, b3⟩, b4⟩ hrj hvj
        refine ⟨⟨fun g hg => by rw [e1]; rw [e2] at hg; exact b1 g hg, cs, by rw [e2]; exact b2, CatR.mono (fun y c hy => ShR.refz e y c hvj hy) _ _ b3⟩, by rw [e2]; exact b4⟩
    · rw [hdead j hj]; trivial
  · have := hn.own j x (hlive j x h)
    exact ⟨this.1, this.2.1, h3 x this.1 this.2.2⟩
/-- a call -/
def evCall (P : Program) (ts : List AV) (mem : List Blk) (base : Nat) (f : Operand) (args : List Operand) (res : AV) (new : List Blk) : Option (AV × List Blk × Prop) :=
  match ev ts f, evArgs ts args with
  | some (.fn g caps), some as =>
    match capsL caps with
    | some cs =>
      if callable P g && (cs.all (·.flat) && (refsLt new.length res && new.all (blkLt new.length))) then
        if (as ++ cs).all (fun a => a.refs.isEmpty) then some (res.shift base, new.map (Blk.shift base), PureC P g (as ++ cs) res new)
        else
          match lendAll mem (as ++ cs) with
          | some (l, C) => if res.noView && new.all Blk.noView then some (res.shift base, new.map (Blk.shift base), C ∧ PureC P g l res new) else none
          | none => none
      else none
    | none => none
  | _, _ => none
theorem evCall_ok {P : Program} {o : Oper} {ts : List AV} {mem : List Blk} {base : Nat} {f : Operand} {args : Array Operand} {tys : Array TypeId} {res av : AV} {new new' : List Blk} {C : Prop}
    (ho : o.op = .call { callee := .value f, args := args, argTypes := tys }) (h : evCall P ts mem base f args.toList res new = some (av, new', C)) : PureOp P o ts mem base av new' C := by
  intro B w G a hC hm ht hrt hrm next Q hn
  unfold evCall at h
  split at h
  · rename_i g caps as hf has
    split at h
    · rename_i cs hcs
      split at h
      · rename_i hcond
        simp only [Bool.and_eq_true, List.all_eq_true] at hcond
        obtain ⟨hcall, hflat, hrefs, hbrefs⟩ := hcond
        obtain ⟨vs, e1, hcv⟩ := (show ∃ vs : List Value, [a.eval f] = [Value.func (.func g) #[] vs.toArray] ∧ CellsR w G caps vs from ev_ok ht hf)
        have ef : a.eval f = .func (.func g) #[] vs.toArray := by simpa using e1
        have hA := evArgs_ok ht args.toList as has
        have hB := capsL_ok caps cs vs hcs hflat hcv
        have hAB := ArgsR.append hA hB
        have hrun : (execOp a.eval o).run P w = .ok (.enter g (args.toList.map a.eval ++ vs).toArray) w := by
          have e2 : (#[] ++ args.map a.eval ++ vs.toArray : Array Value) = (args.toList.map a.eval ++ vs).toArray := by
            apply Array.ext'; simp
          simp only [execOp, ho, resolve, ef, Deferred.ofValue, Sem.run_bind, Sem.run_pure, Result.andThen_ok, invoke]
          rw [run_callFunc hcall, e2]
        have key : ∀ (l : List AV) (fzc fz2 : Nat → Prop), (∀ b, fzc b → b < w.heap.size) → ArgsR w (G0 fzc) l (args.toList.map a.eval ++ vs) → PureC P g l res new →
            (∀ (w' : World) (G' : Gh), NewR w w' (G0 fzc) G' 0 new → ∃ fz2 : Nat → Prop, ((res.noView = true ∧ ∀ b ∈ new, b.noView = true) ∨ ∀ b, G'.fz b → fz2 b) ∧ (∀ b, G.fz b → fz2 b) ∧ (∀ b, fz2 b → G.fz b ∨ (w.heap.size ≤ b ∧ b < w'.heap.size)) ∧ (∀ x, w.heap.size ≤ x → ¬ G'.fz x → ¬ fz2 x)) →
            av = res.shift base → new' = new.map (Blk.shift base) → o.wp P a w next Q := by
          intro l fzc fz2 hfz hargs hp hmode hav hnew
          subst hav; subst hnew
          unfold Oper.wp
          rw [hrun]
          refine (hp w fzc _ ⟨hfz, hm.base.whole⟩ hargs).mono ?_
          rintro e w' ⟨v, G', rfl, hN, hv⟩
          obtain ⟨fz2, hm1, hm2, hm3, hm4⟩ := hmode w' G' hN
          refine hn v w' (callGh G G' base new.length fz2) (call_new hN (fun b hb => blkLt_ok (hbrefs b hb)) (hm1.imp (fun h => h.2) id) hm2 hm3 hm4) ?_
          exact ValR.shift (callGh_shifts G G' base new.length fz2) res v (refsLt_ok hrefs) (hm1.imp (fun h => h.1) id) hv
        split at h
        · rename_i hno
          simp only [Option.some.injEq, Prod.mk.injEq] at h
          obtain ⟨rfl, rfl, rfl⟩ := h
          rw [List.all_eq_true] at hno
          refine key (as ++ cs) G.fz G.fz hm.fz (args_norefs _ _ (fun x hx => by simpa using hno x hx) hAB) hC (fun w' G' hN => ⟨G'.fz, .inr (fun _ h => h), hN.fz1, hN.fz2, fun x _ h => h⟩) rfl rfl
        · split at h
          · rename_i l D hl
            split at h
            · rename_i hv
              simp only [Option.some.injEq, Prod.mk.injEq] at h
              obtain ⟨rfl, rfl, rfl⟩ := h
              simp only [Bool.and_eq_true, List.all_eq_true] at hv
              refine key l (allF w) G.fz (fun _ h => h) (lendAll_ok hm _ _ _ _ hl hC.1 hAB) hC.2 (fun w' G' hN => ⟨G.fz, .inl ⟨hv.1, hv.2⟩, fun _ h => h, fun _ h => .inl h, fun x hx _ hf => by have := hm.fz x hf; omega⟩) rfl rfl
            · cases h
          · cases h
      · cases h
    · cases h
  · cases h
end Go.Proofs.YtbpjinefbnlenaaGreatDoor
