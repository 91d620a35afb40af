/- A machine of values, part 11: the call; all pure operations in one. -/
import Derived.Test.YtghbnolfadnoaaaGreatAm10
import Derived.Laws.RangeAny
import Derived.Laws.Cover4
import Derived.Laws.Runes
import Derived.Laws.Build
import Derived.Laws.RangeString
import Derived.WideLaws
import Derived.Laws.Externs
namespace Go.Proofs.YtghbnolfadnoaaaGreat
open Go Go.RowKit
set_option linter.unusedVariables false
def lendAll (mem : List Blk) : List AV → Option (List AV × Prop)
 | [] => some ([], True)
 | a :: l =>
  match lend mem a, lendAll mem l with
  | some (x, C), some (xs, D) => some (x :: xs, C ∧ D)
  | _, _ => none
theorem lend_val {B : Nat} {w : World} {G : Gh} {mem : List Blk} (hm : MemR B w G mem) (a x : AV) (C : Prop) (v : Value) (h : lend mem a = some (x, C)) (hC : C) (hc : ValR0 w G a v) : ValR0 w (G0 (allF w)) x v := by
 have flat : ∀ a : AV, (∀ y C, lend mem a = some (y, C) → y.flat = true) → CellsR w G a [v] → lend mem a = some (x, C) → ValR0 w (G0 (allF w)) x v := fun a hf hc h =>
  (ValR0.flat (hf x C h)).2 (lend_ok hm a x C [v] h hC hc)
 cases a with
 | st a =>
  simp only [lend, Option.map_eq_some_iff, Prod.mk.injEq, Prod.exists] at h
  obtain ⟨u, D, hu, rfl, rfl⟩ := h
  obtain ⟨cs, e, h1⟩ := hc
  exact ⟨cs, e, lend_ok hm a u D _ hu hC h1⟩
 | arr n e l =>
  simp only [lend, lendC, Option.map_some, Option.some.injEq, Prod.mk.injEq] at h
  obtain ⟨rfl, _⟩ := h
  obtain ⟨cs, e', h1⟩ := hc
  exact ⟨cs, e', ShR.refz (.arr n e) l _ (.inr hm.fz) h1⟩
 | unk => simp only [lend, lendC, Option.map_some, Option.some.injEq, Prod.mk.injEq] at h; obtain ⟨rfl, _⟩ := h; trivial
 | tup a => exact hc.elim
 | nil => simp only [lend, lendC, Option.map_some, Option.some.injEq, Prod.mk.injEq] at h; obtain ⟨rfl, _⟩ := h; exact hc
 | cons a b =>
  have := lend_ok hm _ x C [v] h hC hc
  simp only [lend] at h
  split at h
  ·simp only [Option.some.injEq, Prod.mk.injEq] at h; obtain ⟨rfl, _⟩ := h; exact this
  ·cases h
 | row r =>
  refine flat _ (fun y D hy => ?_) hc h
  simp only [lend, lendC, Option.map_eq_some_iff, Prod.mk.injEq] at hy
  obtain ⟨z, hz, rfl, _⟩ := hy
  split at hz
  ·simp only [Option.some.injEq] at hz; subst hz; rfl
  ·cases hz
 | ptr b q =>
  refine flat _ (fun y D hy => ?_) hc h
  simp only [lend] at hy
  split at hy
  ·split at hy
   ·split at hy
    ·simp only [Option.map_eq_some_iff, Prod.mk.injEq] at hy
     obtain ⟨z, hz, rfl, _⟩ := hy
     rfl
    ·cases hy
   ·cases hy
  ·cases hy
 | fn f c =>
  refine flat _ (fun y D hy => ?_) hc h
  simp only [lend, Option.map_eq_some_iff, Prod.mk.injEq, Prod.exists] at hy
  obtain ⟨u, D, hu, rfl, rfl⟩ := hy
  rfl
 | pv c =>
  refine flat _ (fun y D hy => ?_) hc h
  simp only [lend, lendC, Option.map_eq_some_iff, Prod.mk.injEq] at hy
  obtain ⟨z, hz, rfl, _⟩ := hy
  split at hz
  ·simp only [Option.some.injEq] at hz; subst hz; rfl
  ·cases hz
 | sub r size lo n =>
  refine flat _ (fun y D hy => ?_) hc h
  simp only [lend, lendC, Option.map_eq_some_iff, Prod.mk.injEq] at hy
  obtain ⟨z, hz, rfl, _⟩ := hy
  split at hz
  ·split at hz
   ·simp only [Option.some.injEq] at hz; subst hz; rfl
   ·cases hz
  ·cases hz
 | mp r => cases h
 | slf b z => cases h
 | _ =>
  refine flat _ (fun y D hy => ?_) hc h
  simp only [lend, lendC, Option.map_some, Option.some.injEq, Prod.mk.injEq] at hy
  obtain ⟨rfl, _⟩ := hy
  rfl
theorem lendAll_ok {B : Nat} {w : World} {G : Gh} {mem : List Blk} (hm : MemR B w G mem) : ∀ (l l' : List AV) (C : Prop) (vs : List Value), lendAll mem l = some (l', C) → C → ArgsR w G l vs → ArgsR w (G0 (allF w)) l' vs
 | [], l', C, vs, h, _, hc => by simp only [lendAll, Option.some.injEq, Prod.mk.injEq] at h; obtain ⟨rfl, _⟩ := h; exact hc
 | a :: l, l', C, vs, h, hC, hc => by
  simp only [lendAll] at h
  split at h
  ·rename_i x D xs E hx hxs
   simp only [Option.some.injEq, Prod.mk.injEq] at h
   obtain ⟨rfl, rfl⟩ := h
   obtain ⟨v, t, e, h1, h2⟩ := hc
   exact ⟨v, t, e, lend_val hm a x D v hx hC.1 h1, lendAll_ok hm l xs E t hxs hC.2 h2⟩
  ·cases h
theorem args_norefs {w : World} {G : Gh} : ∀ (l : List AV) (vs : List Value), (∀ a ∈ l, a.refs = []) → ArgsR w G l vs → ArgsR w (G0 G.fz) l vs
 | [], _, _, h => h
 | a :: l, vs, hr, h => by
  obtain ⟨v, t, e, h1, h2⟩ := h
  refine ⟨v, t, e, ?_, args_norefs l t (fun x hx => hr x (by simp [hx])) h2⟩
  have ha := hr a (by simp)
  cases a with
  | st a => obtain ⟨cs, e', h1⟩ := h1; exact ⟨cs, e', CellsR.norefs (fun _ h => h) a _ ha h1⟩
  | arr n e l => exact h1
  | unk => trivial
  | _ => exact CellsR.norefs (fun _ h => h) _ _ ha h1
def refsLt (n : Nat) (a : AV) : Bool := a.refs.all (fun r => decide (r < n))
theorem refsLt_ok {n : Nat} {a : AV} (h : refsLt n a = true) : ∀ r ∈ a.refs, r < n := by
 intro r hr
 unfold refsLt at h
 rw [List.all_eq_true] at h
 simpa using h r hr
def blkLt (n : Nat) (b : Blk) : Bool := b.refs.all (fun r => decide (r < n))
theorem blkLt_ok {n : Nat} {b : Blk} (h : blkLt n b = true) : ∀ r ∈ b.refs, r < n := by
 intro r hr
 unfold blkLt at h
 rw [List.all_eq_true] at h
 simpa using h r hr
def callGh (G G' : Gh) (base len : Nat) (fz : Nat → Prop) : Gh :=
 ⟨fun i => if base ≤ i ∧ i < base + len then G'.addr (i - base) else G.addr i, fun i => if base ≤ i ∧ i < base + len then G'.rowv (i - base) else G.rowv i, fz⟩
theorem callGh_shifts (G G' : Gh) (base len : Nat) (fz : Nat → Prop) : Shifts G' (callGh G G' base len fz) base len := by
 constructor <;> intro i hi <;> simp only [callGh]
 ·rw [if_pos (by omega), Nat.add_sub_cancel]
 ·rw [if_pos (by omega), Nat.add_sub_cancel]
theorem lk_map (new : List Blk) (n j : Nat) : lk (new.map (Blk.shift n)) j = (lk new j).shift n := by
 simp only [lk, List.getD_eq_getElem?_getD, List.getElem?_map]
 cases new[j]? <;> rfl
theorem Sh.av_shift (n : Nat) : ∀ (s : Sh) (x : s.T), (s.av x).shift n = s.av x
 | .int _, _ | .bool, _ | .str, _ | .unit, _ | .arr _ _, _ | .sl _, _ => rfl
 | .pair a b, x => by simp [Sh.av, AV.shift, Sh.av_shift n a, Sh.av_shift n b]
 | .st a, x => by simp [Sh.av, AV.shift, Sh.av_shift n a]
theorem Sh.av_noView : ∀ (s : Sh) (x : s.T), (s.av x).noView = s.noView
 | .int _, _ | .bool, _ | .str, _ | .unit, _ | .arr _ _, _ | .sl _, _ => rfl
 | .pair a b, x => by simp [Sh.av, AV.noView, Sh.noView, Sh.av_noView a, Sh.av_noView b]
 | .st a, x => by simp [Sh.av, AV.noView, Sh.noView, Sh.av_noView a]
theorem call_new {w w' : World} {G G' : Gh} {fzc fz2 : Nat → Prop} {base : Nat} {new : List Blk} (hn : NewR w w' (G0 fzc) G' 0 new) (hr : ∀ b ∈ new, ∀ r ∈ b.refs, r < new.length)
  (hf : (∀ b ∈ new, b.noView = true) ∨ ∀ b, G'.fz b → fz2 b) (h1 : ∀ b, G.fz b → fz2 b) (h2 : ∀ b, fz2 b → G.fz b ∨ (w.heap.size ≤ b ∧ b < w'.heap.size)) (h3 : ∀ x, w.heap.size ≤ x → ¬ G'.fz x → ¬ fz2 x) :
  NewR w w' G (callGh G G' base new.length fz2) base (new.map (Blk.shift base)) := by
 have hs := callGh_shifts G G' base new.length fz2
 have hlt : ∀ (j : Nat), j < new.length → (callGh G G' base new.length fz2).addr (base + j) = G'.addr j ∧ (callGh G G' base new.length fz2).rowv (base + j) = G'.rowv j := by
  intro j hj
  rw [Nat.add_comm base j]
  exact ⟨hs.addr j hj, hs.rowv j hj⟩
 have hmem : ∀ j, j < new.length → lk new j ∈ new := by
  intro j hj
  simp only [lk, List.getD_eq_getElem?_getD, List.getElem?_eq_getElem hj, Option.getD_some]
  exact List.getElem_mem hj
 have hdead : ∀ j, ¬ j < new.length → lk new j = .dead := by
  intro j hj
  simp only [lk, List.getD_eq_getElem?_getD, List.getElem?_eq_none (Nat.not_lt.1 hj), Option.getD_none]
 have hlive : ∀ j x, (lk (new.map (Blk.shift base)) j).live (callGh G G' base new.length fz2) (base + j) = some x → (lk new j).live G' (0 + j) = some x := by
  intro j x h
  rw [lk_map] at h
  by_cases hj : j < new.length
  ·obtain ⟨e1, e2⟩ := hlt j hj
   rw [Nat.zero_add]
   revert h
   cases lk new j with
   | dead => intro h; cases h
   | box t c => intro h; simp only [Blk.shift, Blk.live, e1] at h ⊢; exact h
   | row t e l => intro h; simp only [Blk.shift, Blk.live, e2] at h ⊢; exact h
   | bbuf t e l => intro h; simp only [Blk.shift, Blk.live, e2] at h ⊢; exact h
   | rowl t e l x => intro h; rcases x with _ | ⟨z, c⟩ <;> (simp only [Blk.shift, Blk.live, e2] at h ⊢; exact h)
   | sav ts a => intro h; cases h
   | iter s p => intro h; simp only [Blk.shift, Blk.live, e1] at h ⊢; exact h
   | map t k e l => intro h; simp only [Blk.shift, Blk.live, e1] at h ⊢; exact h
  ·rw [hdead j hj] at h; cases h
 refine ⟨hn.below, fun i hi => ?_, h1, h2, fun j => ?_, fun j k x hjk ha hb => hn.apart j k x hjk (hlive j x ha) (hlive k x hb), fun j x h => ?_⟩
 ·rw [List.length_map] at hi
  constructor <;> simp only [callGh] <;> rw [if_neg (by omega)]
 ·rw [lk_map]
  by_cases hj : j < new.length
  ·obtain ⟨e1, e2⟩ := hlt j hj
   have hb := hn.blk j
   rw [Nat.zero_add] at hb
   have hmj := hmem j hj
   have hrj := hr _ hmj
   have hvj : (lk new j).noView = true ∨ ∀ b, G'.fz b → fz2 b := hf.imp (fun h => h _ hmj) id
   revert hb hrj hvj
   cases lk new j with
   | dead => intros; trivial
   | box t c =>
    rintro ⟨b1, cs, b2, b3⟩ hrj hvj
    refine ⟨by rw [e1]; exact b1, cs, by rw [e1]; exact b2, CellsR.shift hs c cs hrj hvj b3⟩
   | iter s p =>
    rintro ⟨b1, b2⟩ hrj hvj
    exact ⟨by rw [e1]; exact b1, by rw [e1]; exact b2⟩
   | map t k e l =>
    rintro ⟨es, clock, b1, b2⟩ hrj hvj
    simp only [Blk.noView, Bool.and_eq_true] at hvj
    refine ⟨es, clock, by rw [e1]; exact b1, AllR.mono (fun x y hxy => ⟨?_, ?_⟩) _ _ b2⟩
    ·have := ValR0.shift hs (k.av x.1) y.key (by rw [Sh.av_refs]; simp) (by rw [Sh.av_noView]; exact hvj.imp (fun h => h.1) id) hxy.1
     rwa [Sh.av_shift] at this
    ·have := ValR0.shift hs (e.av x.2) y.val (by rw [Sh.av_refs]; simp) (by rw [Sh.av_noView]; exact hvj.imp (fun h => h.2) id) hxy.2
     rwa [Sh.av_shift] at this
   | sav ts a =>
    rintro ⟨⟨b1, b2⟩, b3⟩ hrj hvj
    refine ⟨⟨by rw [List.length_map]; exact b1, fun t => ?_⟩, b3⟩
    have e1 : (ts.map (AV.shift base)).getD t .unk = (ts.getD t .unk).shift base := by
     simp only [List.getD_eq_getElem?_getD, List.getElem?_map]
     cases ts[t]? <;> rfl
    rw [e1]
    exact ValR.shift hs _ _ (fun r hr => hrj r (sav_refs hr)) (.inr (hvj.resolve_left (by simp [Blk.noView]))) (b2 t)
   | row t e l =>
    rintro ⟨b1, cs, b2, b3⟩ hrj hvj
    refine ⟨fun g hg => by rw [e1]; rw [e2] at hg; exact b1 g hg, cs, by rw [e2]; exact b2, CatR.mono (fun y c hy => ShR.refz e y c hvj hy) _ _ b3⟩
   | rowl t e l x =>
    rintro ⟨b1, c1, c2, b2, b3, b4⟩ hrj hvj
    rcases x with _ | ⟨z, c⟩
    ·exact ⟨by rw [e1, e2]; exact b1, c1, c2, by rw [e2]; exact b2, CatR.mono (fun y c hy => ShR.refz e y c hvj hy) _ _ b3, b4⟩
    ·have hf2 := hvj.resolve_left (by simp [Blk.noView])
     exact ⟨by rw [e1, e2]; exact b1, c1, c2, by rw [e2]; exact b2, CatR.mono (fun y c hy => ShR.refz e y c (.inr hf2) hy) _ _ b3, fun hz => CellsR.shift hs c c2 hrj (.inr hf2) (b4.1 hz), b4.2⟩
   | bbuf t e l =>
    rintro ⟨⟨b1, cs, b2, b3⟩, b4⟩ hrj hvj
    refine ⟨⟨fun g hg => by rw [e1]; rw [e2] at hg; exact b1 g hg, cs, by rw [e2]; exact b2, CatR.mono (fun y c hy => ShR.refz e y c hvj hy) _ _ b3⟩, by rw [e2]; exact b4⟩
  ·rw [hdead j hj]; trivial
 ·have := hn.own j x (hlive j x h)
  exact ⟨this.1, this.2.1, h3 x this.1 this.2.2⟩
def evCall (P : Program) (ts : List AV) (mem : List Blk) (base : Nat) (f : Operand) (args : List Operand) (res : AV) (new : List Blk) : Option (AV × List Blk × Prop) :=
 match ev ts f, evArgs ts args with
 | some (.fn g caps), some as =>
  match capsL caps with
  | some cs =>
   if callable P g && (cs.all (·.flat) && (refsLt new.length res && new.all (blkLt new.length))) then
    if (as ++ cs).all (fun a => a.refs.isEmpty) then some (res.shift base, new.map (Blk.shift base), PureC P g (as ++ cs) res new)
    else
     match lendAll mem (as ++ cs) with
     | some (l, C) => if res.noView && new.all Blk.noView then some (res.shift base, new.map (Blk.shift base), C ∧ PureC P g l res new) else none
     | none => none
   else none
  | none => none
 | _, _ => none
theorem evCall_ok {P : Program} {o : Oper} {ts : List AV} {mem : List Blk} {base : Nat} {f : Operand} {args : Array Operand} {tys : Array TypeId} {res av : AV} {new new' : List Blk} {C : Prop}
  (ho : o.op = .call { callee := .value f, args := args, argTypes := tys }) (h : evCall P ts mem base f args.toList res new = some (av, new', C)) : PureOp P o ts mem base av new' C := by
 intro B w G a hC hm ht hrt hrm next Q hn
 unfold evCall at h
 split at h
 ·rename_i g caps as hf has
  split at h
  ·rename_i cs hcs
   split at h
   ·rename_i hcond
    simp only [Bool.and_eq_true, List.all_eq_true] at hcond
    obtain ⟨hcall, hflat, hrefs, hbrefs⟩ := hcond
    obtain ⟨vs, e1, hcv⟩ := (show ∃ vs : List Value, [a.eval f] = [Value.func (.func g) #[] vs.toArray] ∧ CellsR w G caps vs from ev_ok ht hf)
    have ef : a.eval f = .func (.func g) #[] vs.toArray := by simpa using e1
    have hA := evArgs_ok ht args.toList as has
    have hB := capsL_ok caps cs vs hcs hflat hcv
    have hAB := ArgsR.append hA hB
    have hrun : (execOp a.eval o).run P w = .ok (.enter g (args.toList.map a.eval ++ vs).toArray) w := by
     have e2 : (#[] ++ args.map a.eval ++ vs.toArray : Array Value) = (args.toList.map a.eval ++ vs).toArray := by
      apply Array.ext'; simp
     simp only [execOp, ho, resolve, ef, Deferred.ofValue, Sem.run_bind, Sem.run_pure, Result.andThen_ok, invoke]
     rw [run_callFunc hcall, e2]
    have key : ∀ (l : List AV) (fzc fz2 : Nat → Prop), (∀ b, fzc b → b < w.heap.size) → ArgsR w (G0 fzc) l (args.toList.map a.eval ++ vs) → PureC P g l res new →
      (∀ (w' : World) (G' : Gh), NewR w w' (G0 fzc) G' 0 new → ∃ fz2 : Nat → Prop, ((res.noView = true ∧ ∀ b ∈ new, b.noView = true) ∨ ∀ b, G'.fz b → fz2 b) ∧ (∀ b, G.fz b → fz2 b) ∧ (∀ b, fz2 b → G.fz b ∨ (w.heap.size ≤ b ∧ b < w'.heap.size)) ∧ (∀ x, w.heap.size ≤ x → ¬ G'.fz x → ¬ fz2 x)) →
      av = res.shift base → new' = new.map (Blk.shift base) → o.wp P a w next Q := by
     intro l fzc fz2 hfz hargs hp hmode hav hnew
     subst hav; subst hnew
     unfold Oper.wp
     rw [hrun]
     refine (hp w fzc _ ⟨hfz, hm.base.whole⟩ hargs).mono ?_
     rintro e w' ⟨v, G', rfl, hN, hv⟩
     obtain ⟨fz2, hm1, hm2, hm3, hm4⟩ := hmode w' G' hN
     refine hn v w' (callGh G G' base new.length fz2) (call_new hN (fun b hb => blkLt_ok (hbrefs b hb)) (hm1.imp (fun h => h.2) id) hm2 hm3 hm4) ?_
     exact ValR.shift (callGh_shifts G G' base new.length fz2) res v (refsLt_ok hrefs) (hm1.imp (fun h => h.1) id) hv
    split at h
    ·rename_i hno
     simp only [Option.some.injEq, Prod.mk.injEq] at h
     obtain ⟨rfl, rfl, rfl⟩ := h
     rw [List.all_eq_true] at hno
     refine key (as ++ cs) G.fz G.fz hm.fz (args_norefs _ _ (fun x hx => by simpa using hno x hx) hAB) hC (fun w' G' hN => ⟨G'.fz, .inr (fun _ h => h), hN.fz1, hN.fz2, fun x _ h => h⟩) rfl rfl
    ·split at h
     ·rename_i l D hl
      split at h
      ·rename_i hv
       simp only [Option.some.injEq, Prod.mk.injEq] at h
       obtain ⟨rfl, rfl, rfl⟩ := h
       simp only [Bool.and_eq_true, List.all_eq_true] at hv
       refine key l (allF w) G.fz (fun _ h => h) (lendAll_ok hm _ _ _ _ hl hC.1 hAB) hC.2 (fun w' G' hN => ⟨G.fz, .inl ⟨hv.1, hv.2⟩, fun _ h => h, fun _ h => .inl h, fun x hx _ hf => by have := hm.fz x hf; omega⟩) rfl rfl
      ·cases h
     ·cases h
   ·cases h
  ·cases h
 ·cases h
theorem run_bound {P : Program} {w : World} (k : IntKind) (i : Int) (y : Nat) (c : BoundsCode) (h0 : 0 ≤ i) (h1 : i ≤ y) : (Instr.sliceBound (.int k i) y c).run P w = .ok i.toNat w := by
 simp only [Instr.sliceBound, asIntOf, Sem.run_bind, Sem.run_pure, Result.andThen_ok]
 rw [if_pos ⟨h0, h1⟩]
 rfl
def evSlice2 (P : Program) (mem : List Blk) (t : TypeId) (x : AV) (lo hi mx : Option AV) : Option (AV × Prop) :=
 match P.underlying t with
 | some (.slice el) =>
  match P.info? el with
  | some inf =>
   match mx with
   | none =>
    match oiAV lo, oiAV hi with
    | some lo, some hi =>
     match x with
     | .row r =>
      match lk mem r with
      | .row _ e l => if inf.size = e.size then some (.sub r e.size (loN lo) (hiN l.length hi - loN lo), subC l.length lo hi) else none
      | .rowl _ e l none => if inf.size = e.size then some (.sub r e.size (loN lo) (hiN l.length hi - loN lo), subC l.length lo hi) else none
      | _ => none
     | .sub r size s n => if inf.size = size then some (.sub r size (s + loN lo) (hiN n hi - loN lo), subC n lo hi) else none
     | _ => none
    | _, _ => none
   | some (.int _ m) =>
    match x, lo, hi with
    | .row r, none, some (.int _ h) =>
     match lk mem r with
     | .row _ _ l => if m = 0 ∧ h = 0 then some (.emp, True) else some (.unk, 0 ≤ h ∧ h ≤ m ∧ m ≤ l.length)
     | _ => none
    | .row r, some (.int _ lo), some (.int _ h) =>
     match lk mem r with
     | .row _ _ l => some (.unk, 0 ≤ lo ∧ lo ≤ h ∧ h ≤ m ∧ m ≤ l.length)
     | _ => none
    | _, _, _ => none
   | _ => none
  | none => none
 | _ => none
theorem row_val {B : Nat} {w : World} {G : Gh} {mem : List Blk} (hm : MemR B w G mem) {r : Nat} {t : TypeId} {e : Sh} {l : List e.T} (h : lk mem r = .row t e l) : ∃ ad cap, G.rowv r = .slice ad l.length cap ∧ l.length ≤ cap ∧ cap ≤ maxLen := by
 have hb := hm.blk r
 rw [h] at hb
 obtain ⟨_, cs, hrow, _⟩ := hb
 obtain ⟨a, cap, e, h1, h2, _⟩ := hrow.slice
 exact ⟨a, cap, e, h1, h2⟩
theorem rowl_val {B : Nat} {w : World} {G : Gh} {mem : List Blk} (hm : MemR B w G mem) {r : Nat} {t : TypeId} {e : Sh} {l : List e.T} {x : Option (Bool × AV)} (h : lk mem r = .rowl t e l x) : ∃ ad cap, G.rowv r = .slice ad (l.length + lstN x) cap ∧ l.length + lstN x ≤ cap ∧ cap ≤ maxLen := by
 have hb := hm.blk r
 rw [h] at hb
 obtain ⟨_, c1, c2, hrow, _⟩ := hb
 obtain ⟨a, cap, e, h1, h2, _⟩ := hrow.slice
 exact ⟨a, cap, e, h1, h2⟩
theorem addr_add_add (a : Addr) (x y : Nat) : (a.add x).add y = a.add (x + y) := by
 unfold Addr.add
 by_cases hx : x = 0
 ·subst hx; simp
 ·by_cases hy : y = 0
  ·subst hy; simp [hx]
  ·simp [hx, hy, Nat.add_assoc]
theorem run_bounds3 {P : Program} {w : World} {n cap : Nat} {lo : Option Value} {l : Int} {k2 k3 : IntKind} {h m : Int} (hl : (lo = none ∧ l = 0) ∨ ∃ k, lo = some (.int k l)) (h0 : 0 ≤ l) (h1 : l ≤ h) (h2 : h ≤ m) (h3 : m ≤ cap) :
  (Instr.sliceBounds true n cap lo (some (.int k2 h)) (some (.int k3 m))).run P w = .ok (l.toNat, h.toNat, m.toNat) w := by
 rcases hl with ⟨rfl, rfl⟩ | ⟨k, rfl⟩
 ·simp [Instr.sliceBounds, run_bound k3 m cap _ (by omega) h3, run_bound k2 h m.toNat _ (by omega) (by omega)]
 ·simp [Instr.sliceBounds, run_bound k3 m cap _ (by omega) h3, run_bound k2 h m.toNat _ (by omega) (by omega), run_bound k l h.toNat _ h0 (by omega)]
theorem evSlice2_ok {P : Program} {B : Nat} {w : World} {G : Gh} {mem : List Blk} (hm : MemR B w G mem) {t : TypeId} {x c : AV} {lo hi mx : Option AV} {u : Value} {vlo vhi vmx : Option Value} {C : Prop} (h : evSlice2 P mem t x lo hi mx = some (c, C)) (hC : C) (hu : ValR w G x u)
  (h1 : OV w G lo vlo) (h2 : OV w G hi vhi) (h3 : OV w G mx vmx) :
  ∃ r, (Instr.sliceAt t u vlo vhi vmx).run P w = .ok r w ∧ ValR w G c r := by
 unfold evSlice2 at h
 split at h
 ·rename_i el hut
  split at h
  ·rename_i inf hinf
   split at h
   ·obtain rfl : vmx = none := by cases vmx with | none => rfl | some v => exact h3.elim
    split at h
    ·rename_i lo' hi' hlo hhi
     have ol := oi_ok hlo h1
     have oh := oi_ok hhi h2
     split at h
     ·rename_i r
      split at h
      ·rename_i T e l hlk
       split at h
       ·rename_i hz
        simp only [Option.some.injEq, Prod.mk.injEq] at h
        obtain ⟨rfl, rfl⟩ := h
        obtain ⟨e1, e2⟩ := (show [u] = [G.rowv r] ∧ _ from hu)
        obtain rfl : u = G.rowv r := by simpa using e1
        obtain ⟨ad, cap, hv, hlc, hcm⟩ := row_val hm hlk
        obtain ⟨g1, g2⟩ := subC_le hC
        refine ⟨.slice (if cap = loN lo' then ad else ad.map (·.add (loN lo' * inf.size))) (hiN l.length hi' - loN lo') (cap - loN lo'), ?_, ?_⟩
        ·rw [hv]
         simp only [Instr.sliceAt, Sem.run_bind, run_underlying hut, Result.andThen_ok, Instr.slice, run_bounds ol oh hC hlc, run_sz hinf, Sem.run_pure]
        ·exact ⟨_, rfl, ad, l.length, cap, _, hv, hlc, hcm, rfl, by omega, fun hlt => by rw [if_neg (by omega), hz]⟩
       ·cases h
      ·rename_i T e l hlk
       split at h
       ·rename_i hz
        simp only [Option.some.injEq, Prod.mk.injEq] at h
        obtain ⟨rfl, rfl⟩ := h
        obtain ⟨e1, e2⟩ := (show [u] = [G.rowv r] ∧ _ from hu)
        obtain rfl : u = G.rowv r := by simpa using e1
        obtain ⟨ad, cap, hv, hlc, hcm⟩ := rowl_val hm hlk
        rw [show lstN none = 0 from rfl, Nat.add_zero] at hv hlc
        obtain ⟨g1, g2⟩ := subC_le hC
        refine ⟨.slice (if cap = loN lo' then ad else ad.map (·.add (loN lo' * inf.size))) (hiN l.length hi' - loN lo') (cap - loN lo'), ?_, ?_⟩
        ·rw [hv]
         simp only [Instr.sliceAt, Sem.run_bind, run_underlying hut, Result.andThen_ok, Instr.slice, run_bounds ol oh hC hlc, run_sz hinf, Sem.run_pure]
        ·exact ⟨_, rfl, ad, l.length, cap, _, hv, hlc, hcm, rfl, by omega, fun hlt => by rw [if_neg (by omega), hz]⟩
       ·cases h
      ·cases h
     ·rename_i r size s n
      split at h
      ·rename_i hz
       simp only [Option.some.injEq, Prod.mk.injEq] at h
       obtain ⟨rfl, rfl⟩ := h
       obtain ⟨v, e1, ad, N, cap, a', hv, hN, hcm, rfl, hle, ha⟩ := (show ∃ v, [u] = [v] ∧ SubR size s n (G.rowv r) v from hu)
       obtain rfl := (List.cons.inj e1).1
       obtain ⟨g1, g2⟩ := subC_le hC
       refine ⟨.slice (if cap - s = loN lo' then a' else a'.map (·.add (loN lo' * inf.size))) (hiN n hi' - loN lo') (cap - s - loN lo'), ?_, ?_⟩
       ·simp only [Instr.sliceAt, Sem.run_bind, run_underlying hut, Result.andThen_ok, Instr.slice, run_bounds ol oh hC (show n ≤ cap - s by omega), run_sz hinf, Sem.run_pure]
       ·refine ⟨_, rfl, ad, N, cap, _, hv, hN, hcm, by rw [Nat.sub_sub], by omega, fun hlt => ?_⟩
        rw [if_neg (by omega), ha (by omega), hz]
        cases ad with
        | none => rfl
        | some b => simp only [Option.map_some, addr_add_add, Nat.add_mul]
      ·cases h
     ·cases h
    ·cases h
   ·rename_i k m
    obtain ⟨vm, rfl⟩ : ∃ vm, vmx = some vm := by cases vmx with | none => exact h3.elim | some v => exact ⟨v, rfl⟩
    rw [val_int (show ValR w G (.int k m) vm from h3)]
    split at h
    ·rename_i r k2 hh
     obtain rfl : vlo = none := by cases vlo with | none => rfl | some v => exact h1.elim
     obtain ⟨vh, rfl⟩ : ∃ vm, vhi = some vm := by cases vhi with | none => exact h2.elim | some v => exact ⟨v, rfl⟩
     rw [val_int (show ValR w G (.int k2 hh) vh from h2)]
     obtain ⟨e1, e2⟩ := (show [u] = [G.rowv r] ∧ _ from hu)
     obtain rfl : u = G.rowv r := by simpa using e1
     split at h
     ·rename_i T e l hlk
      obtain ⟨ad, cap, hv, hlc, hcm⟩ := row_val hm hlk
      rw [hv]
      split at h
      ·rename_i hz
       obtain ⟨rfl, rfl⟩ := hz
       simp only [Option.some.injEq, Prod.mk.injEq] at h
       obtain ⟨rfl, rfl⟩ := h
       refine ⟨.slice ad 0 0, ?_, ad, rfl⟩
       simp only [Instr.sliceAt, Sem.run_bind, run_underlying hut, Result.andThen_ok, Instr.slice, run_bounds3 (.inl ⟨rfl, rfl⟩) (Int.le_refl 0) (Int.le_refl 0) (Int.le_refl 0) (by omega : (0 : Int) ≤ cap), run_sz hinf, Sem.run_pure]
       rfl
      ·simp only [Option.some.injEq, Prod.mk.injEq] at h
       obtain ⟨rfl, rfl⟩ := h
       obtain ⟨g1, g2, g3⟩ := hC
       refine ⟨.slice (if m.toNat = (0 : Int).toNat then ad else ad.map (·.add ((0 : Int).toNat * inf.size))) (hh.toNat - (0 : Int).toNat) (m.toNat - (0 : Int).toNat), ?_, trivial⟩
       simp only [Instr.sliceAt, Sem.run_bind, run_underlying hut, Result.andThen_ok, Instr.slice, run_bounds3 (lo := none) (.inl ⟨rfl, rfl⟩) (Int.le_refl 0) g1 g2 (by omega : m ≤ cap), run_sz hinf, Sem.run_pure]
     ·cases h
    ·rename_i r k1 lo1 k2 hh
     obtain ⟨vl, rfl⟩ : ∃ vm, vlo = some vm := by cases vlo with | none => exact h1.elim | some v => exact ⟨v, rfl⟩
     obtain ⟨vh, rfl⟩ : ∃ vm, vhi = some vm := by cases vhi with | none => exact h2.elim | some v => exact ⟨v, rfl⟩
     rw [val_int (show ValR w G (.int k2 hh) vh from h2), val_int (show ValR w G (.int k1 lo1) vl from h1)]
     obtain ⟨e1, e2⟩ := (show [u] = [G.rowv r] ∧ _ from hu)
     obtain rfl : u = G.rowv r := by simpa using e1
     split at h
     ·rename_i T e l hlk
      obtain ⟨ad, cap, hv, hlc, hcm⟩ := row_val hm hlk
      rw [hv]
      simp only [Option.some.injEq, Prod.mk.injEq] at h
      obtain ⟨rfl, rfl⟩ := h
      obtain ⟨g0, g1, g2, g3⟩ := hC
      refine ⟨.slice (if m.toNat = lo1.toNat then ad else ad.map (·.add (lo1.toNat * inf.size))) (hh.toNat - lo1.toNat) (m.toNat - lo1.toNat), ?_, trivial⟩
      simp only [Instr.sliceAt, Sem.run_bind, run_underlying hut, Result.andThen_ok, Instr.slice, run_bounds3 (.inr ⟨k1, rfl⟩) g0 g1 g2 (by omega : m ≤ cap), run_sz hinf, Sem.run_pure]
     ·cases h
    ·cases h
   ·cases h
  ·cases h
 ·cases h
def evLen2 (P : Program) (t : TypeId) (x : AV) : Option AV :=
 match P.underlying t, x with
 | some (.slice _), .sub _ _ _ n => some (.int .i64 n)
 | _, _ => none
theorem evLen2_ok {P : Program} {w : World} {G : Gh} {t ty : TypeId} {x c : AV} {u : Value} (h : evLen2 P t x = some c) (hu : ValR w G x u) : ∃ r, (Builtin.len_ #[t] ty #[u]).run P w = .ok r w ∧ ValR w G c r := by
 unfold evLen2 at h
 split at h
 ·rename_i el r size lo n hut
  simp only [Option.some.injEq] at h
  subst h
  obtain ⟨v, e1, ad, N, cap, a', hv, hN, hcm, rfl, hle, ha⟩ := (show ∃ v, [u] = [v] ∧ SubR size lo n (G.rowv r) v from hu)
  obtain rfl := (List.cons.inj e1).1
  exact ⟨.int .i64 n, by simp [Builtin.len_, run_underlying hut, goInt], rfl⟩
 ·cases h
def evIndexAddr2 (P : Program) (mem : List Blk) (t : TypeId) (x ix : AV) : Option (AV × Prop) :=
 match ix, x, P.underlying t with
 | .int k i, .sub r size lo n, some (.slice el) =>
  match P.info? el, lk mem r with
  | some inf, .row _ e _ => if inf.size = size ∧ e.size = size then some (.ptr r [.idx (lo + i.toNat) size], inR i n) else none
  | _, _ => none
 | _, _, _ => none
theorem evIndexAddr2_ok {P : Program} {B : Nat} {w : World} {G : Gh} {mem : List Blk} {t : TypeId} {x ix c : AV} {C : Prop} {u v : Value} (h : evIndexAddr2 P mem t x ix = some (c, C)) (hC : C) (hm : MemR B w G mem) (hu : ValR w G x u) (hv : ValR w G ix v) :
  ∃ r, (Instr.indexAt t u v).run P w = .ok r w ∧ ValR w G c r := by
 unfold evIndexAddr2 at h
 split at h
 ·rename_i k i r size lo n el hut
  rw [val_int hv]
  split at h
  ·rename_i inf T e l hinf hlk
   split at h
   ·rename_i hz
    obtain ⟨hz, hez⟩ := hz
    simp only [Option.some.injEq, Prod.mk.injEq] at h
    obtain ⟨rfl, rfl⟩ := h
    obtain ⟨h0, h1⟩ := hC
    obtain ⟨v', e1, ad, N, cap, a', hrv, hN, hcm, rfl, hle, ha⟩ := (show ∃ v, [u] = [v] ∧ SubR size lo n (G.rowv r) v from hu)
    obtain rfl := (List.cons.inj e1).1
    have hb := hm.blk r
    rw [hlk] at hb
    obtain ⟨hga, cs, hrow, _⟩ := hb
    rcases hrow with ⟨hn, _, ax, hval⟩ | ⟨g, cap2, rest, hval, hcap, _, ho, _⟩
    ·rw [hval] at hrv
     obtain ⟨_, rfl, rfl⟩ := Value.slice.inj hrv
     omega
    ·have hg := hga g (by rw [hval]; cases cap2 with | zero => omega | succ n => rfl)
     rw [hval] at hrv
     obtain ⟨rfl, rfl, rfl⟩ := Value.slice.inj hrv
     rw [ha (by omega)]
     refine ⟨.pointer (some ((Addr.add ⟨g, 0, none⟩ (lo * size)).add (i.toNat * inf.size))), ?_, ?_⟩
     ·simp only [Instr.indexAt, asIntOf, Sem.run_bind, Sem.run_pure, Result.andThen_ok, run_underlying hut, Option.map_some]
      rw [if_pos ⟨h0, h1⟩]
      simp only [Sem.run_bind, Sem.run_pure, Result.andThen_ok, run_sz hinf]
     ·show [Value.pointer _] = [Value.pointer _]
      rw [addr_add_add, addr_add', hg, hz]
      simp [offs, Nat.add_mul]
   ·cases h
  ·cases h
 ·cases h
theorem newRowX {w : World} {G : Gh} {base n cap : Nat} {t : TypeId} {e : Sh} {l : List e.T} {cells rest : List Value} {o : Obj} {w' : World} (fr : Nat × Nat) (hfr : fr = (0, 0) ∨ (t = 5 ∧ (cells ++ rest).length ≤ fr.1)) (ho : o = .cells (cells ++ rest).toArray t fr) (hw' : w'.heap = w.heap.push o) (hbel : Below w.heap.size w w') (hc : CatR (ShR w G.fz e) l cells) (hl : l.length = n) (hnc : n ≤ cap) (hm : cap ≤ maxLen) (hcr : (cells ++ rest).length = cap * e.size) (hfz : ∀ b, G.fz b → b < w.heap.size) :
  NewR w w' G (G.put base ⟨w.heap.size, 0, none⟩ (.slice (some ⟨w.heap.size, 0, none⟩) n cap)) base [.row t e l] := by
 have hsz : w'.heap.size = w.heap.size + 1 := by rw [hw']; simp
 have hl0 : ∀ (j x : Nat), (lk [Blk.row t e l] j).live (G.put base ⟨w.heap.size, 0, none⟩ (.slice (some ⟨w.heap.size, 0, none⟩) n cap)) (base + j) = some x → j = 0 ∧ x = w.heap.size := by
  intro j x h
  cases j with
  | zero =>
   simp only [lk, Blk.live, Gh.put, List.getD_cons_zero, Nat.add_zero, if_true] at h
   cases cap with
   | zero => simp [rowBlk] at h
   | succ n => simp [rowBlk] at h; exact ⟨rfl, h.symm⟩
  | succ j => simp [lk, Blk.live] at h
 have hlen : cells.length = l.length * e.size := CatR.length (fun y c hy => ShR.length e y c hy) _ _ hc
 refine ⟨hbel, fun i hi => Gh.put_agree _ _ _ _ _ (by simp at hi; omega), fun _ h => h, fun _ h => .inl h, fun j => ?_, fun j k x hjk h1 h2 => ?_, fun j x h => ?_⟩
 ·cases j with
  | zero =>
   refine ⟨fun g hg => ?_, cells, ?_, CatR.mono (fun y c hy => ShR.keep (fz := G.fz) ⟨hbel.size, fun b h hlt => hbel.block b hlt, fun _ h => h⟩ e y c hy) _ _ hc⟩
   ·simp only [Gh.put, Nat.add_zero, if_true] at hg ⊢
    cases cap with
    | zero => simp [rowBlk] at hg
    | succ n => simp [rowBlk] at hg; rw [hg]
   ·simp only [Gh.put, Nat.add_zero, if_true]
    rcases Nat.eq_zero_or_pos cap with h0 | h0
    ·refine .inl ⟨by omega, ?_, _, by rw [show n = 0 by omega, h0]⟩
     apply List.length_eq_zero_iff.1
     rw [hlen, hl, show n = 0 by omega, Nat.zero_mul]
    ·refine .inr ⟨w.heap.size, cap, rest, by rw [hl], h0, Nat.le_refl _, ?_, by omega, hm, hlen, hcr⟩
     refine ⟨fr, ?_, hfr⟩
     rw [hw', ← ho]
     simp
  | succ j => simp [lk, BlkR]
 ·have := hl0 j x h1; have := hl0 k x h2; omega
 ·obtain ⟨_, rfl⟩ := hl0 j x h
  exact ⟨Nat.le_refl _, by omega, fun hf => by have := hfz _ hf; omega⟩
def makeW (b : Nat) : Nat := if b ≤ 2 then 1 else b + 1
def evMake2 (P : Program) (ts : List AV) (t : TypeId) (l c : Operand) : Option (Blk × Prop) :=
 match P.underlying t with
 | some (.slice el) =>
  match P.info? el, shOf P 12 el with
  | some inf, some e =>
   match inf.zero with
   | some z =>
    if (decide (inf.size = e.size) && (decide (0 < e.size) && (decide (inf.bytes ≤ 16384) && e.chk e.dflt z.cells.toList))) = true then
     match ev ts l, ev ts c with
     | some (.int _ n), some (.int _ m) => some (.row el e (List.replicate n.toNat e.dflt), 0 ≤ n ∧ (n ≤ m ∧ m * (makeW inf.bytes : Nat) ≤ 140737488355328))
     | _, _ => none
    else none
   | none => none
  | _, _ => none
 | _ => none
theorem evMake2_ok {P : Program} {o : Oper} {ts : List AV} {mem : List Blk} {base : Nat} {t : TypeId} {l c : Operand} {b : Blk} {C : Prop} (ho : o.op = .makeSlice t l c) (h : evMake2 P ts t l c = some (b, C)) :
  PureOp P o ts mem base (.row base) [b] C := by
 intro B w G a hC hm ht hrt hrm next Q hn
 unfold evMake2 at h
 split at h
 ·rename_i el hut
  split at h
  ·rename_i inf e hinf hsh
   split at h
   ·rename_i z hz
    split at h
    ·rename_i hcond
     simp only [Bool.and_eq_true, decide_eq_true_eq] at hcond
     obtain ⟨hsz, h0, hby, hchk⟩ := hcond
     split at h
     ·rename_i k1 n k2 m hl hc
      simp only [Option.some.injEq, Prod.mk.injEq] at h
      obtain ⟨rfl, rfl⟩ := h
      obtain ⟨hn0, hnm, hn1⟩ := hC
      have el1 := val_int (ev_ok ht hl)
      have ec1 := val_int (ev_ok ht hc)
      have hb0 : (m : Int) ≤ 140737488355328 ∧ (inf.bytes : Int) * m ≤ 281474976710656 := by
       unfold makeW at hn1
       split at hn1
       ·rename_i hb2
        have hm2 : (m : Int) ≤ 140737488355328 := by omega
        have : (inf.bytes : Int) * m ≤ 2 * m := Int.mul_le_mul_of_nonneg_right (by omega) (by omega)
        exact ⟨hm2, by omega⟩
       ·have hb1 : (m : Int) * ((inf.bytes : Int) + 1) ≤ 140737488355328 := by simpa using hn1
        have hb2 : (inf.bytes : Int) * m + m ≤ 140737488355328 := by rw [Int.mul_add, Int.mul_one, Int.mul_comm] at hb1; exact hb1
        have hb3 : 0 ≤ (inf.bytes : Int) * m := Int.mul_nonneg (by omega) (by omega)
        exact ⟨by omega, by omega⟩
      obtain ⟨hb1, hb2⟩ := hb0
      have hr := run_make (P := P) w t el inf z hut hinf hz k1 k2 n m hn0 hnm (by omega) (by omega)
      have hzc : ShR w G.fz e e.dflt z.cells.toList := Sh.chk_ok e e.dflt _ hchk
      have hcat := made_cat hzc h0 m.toNat
      have hmx : m.toNat ≤ maxLen := by unfold maxLen; omega
      rw [show List.replicate m.toNat e.dflt = List.replicate n.toNat e.dflt ++ List.replicate (m.toNat - n.toNat) e.dflt by rw [List.replicate_append_replicate]; congr 1; omega] at hcat
      obtain ⟨ca, cb, hcc, h2, h3⟩ := CatR.split hcat
      have hla := CatR.length (fun y c hy => ShR.length e y c hy) _ _ h2
      have hlb := CatR.length (fun y c hy => ShR.length e y c hy) _ _ h3
      rw [List.length_replicate] at hla hlb
      unfold Oper.wp
      simp only [execOp, ho, el1, ec1, Sem.run_bind, hr, Result.andThen_ok, Sem.run_pure]
      rw [hsz]
      refine hn _ _ _ (newRowX (n := n.toNat) (cap := m.toNat) (cells := ca) (rest := cb) (0, 0) (.inl rfl) rfl (by rw [← hcc]; rfl) ((Below.refl _ _).alloc (Nat.le_refl _) _) h2 (by simp) (by omega) hmx (by rw [List.length_append, hla, hlb, ← Nat.add_mul]; congr 1; omega) hm.fz) ?_
      show [Value.slice _ _ _] = [_] ∧ _
      simp [Gh.put, Value.oneCell']
     ·cases h
    ·cases h
   ·cases h
  ·cases h
 ·cases h
def encL (n : Int) : List UInt8 := (Utf8.encode n).data.toList
def strOfRunes (l : List Int) : List UInt8 := l.flatMap encL
theorem runes_foldl : ∀ (l : List Int) (s : ByteArray), l.foldl (fun r n => r ++ Utf8.encode n) s = ⟨(s.data.toList ++ strOfRunes l).toArray⟩
 | [], s => by simp [strOfRunes]
 | n :: l, s => by
  rw [List.foldl_cons, runes_foldl l]
  congr 1
  simp [strOfRunes, encL, ByteArray.data_append]
theorem CatR.ints' {w : World} {fz : Nat → Prop} {k : IntKind} {l : List Int} {cs : List Value} (h : CatR (ShR w fz (.int k)) l cs) : cs = l.map (Value.int k) := CatR.ints h
def evConv2 (P : Program) (mem : List Blk) (src dst : TypeId) (a : AV) : Option AV :=
 match P.underlying src, P.underlying dst with
 | some (.int _), some .string =>
  match a with
  | .int _ n => some (.str (encL n))
  | _ => none
 | some (.slice e), some .string =>
  match P.underlying e with
  | some (.int .i32) =>
   match a with
   | .nilS => some (.str [])
   | .sl (.int .i32) l => some (.str (strOfRunes l))
   | .row r =>
    match lk mem r with
    | .row _ (.int .i32) l => some (.str (strOfRunes l))
    | _ => none
   | _ => none
  | some (.int .u8) =>
   match a with
   | .sub r size lo n =>
    match lk mem r with
    | .row _ (.int .u8) l => if size = 1 then some (.str (strOf ((l.take (lo + n)).drop lo))) else none
    | _ => none
   | _ => none
  | _ => none
 | _, _ => none
theorem evConv2_ok {P : Program} {B : Nat} {w : World} {G : Gh} {mem : List Blk} (hm : MemR B w G mem) {src dst : TypeId} {a av : AV} {u : Value} (h : evConv2 P mem src dst a = some av) (ha : ValR w G a u) : ∃ r, (convert src dst u).run P w = .ok r w ∧ ValR w G av r := by
 have runes : ∀ (e : TypeId) (fz : Nat → Prop) (l : List Int), P.underlying src = some (.slice e) → P.underlying e = some (.int .i32) → P.underlying dst = some .string → ShR w fz (.sl (.int .i32)) l [u] → ∃ r, (convert src dst u).run P w = .ok r w ∧ ValR w G (.str (strOfRunes l)) r := by
  intro e fz l h1 h2 h3 hl
  obtain ⟨ad, cap, e1, hlc, hcm, hx⟩ := hl
  obtain rfl := (List.cons.inj e1).1
  rw [run_convert_runes_string w src dst e ad l.length cap h1 h2 h3]
  cases ad with
  | none =>
   have h0 : l = [] := by
    rcases Nat.eq_zero_or_pos l.length with h0 | h0
    ·exact List.length_eq_zero_iff.1 h0
    ·obtain ⟨b, off, cells, e2, _⟩ := hx h0; cases e2
   subst h0
   exact ⟨.string .empty, by simp [Conv.runesToString, Sem.run_pure], rfl⟩
  | some ad =>
   refine ⟨_, run_runesToString w ad l.length cap l ?_, ?_⟩
   ·rcases Nat.eq_zero_or_pos l.length with h0 | h0
    ·have : l = [] := List.length_eq_zero_iff.1 h0
     subst this
     have := run_loadCells_list (P := P) w ad [] (fun j v hj => by simp at hj)
     simpa using this
    ·obtain ⟨b, off, cells, e2, hf, hb, hc, hcell⟩ := hx h0
     obtain rfl := Option.some.inj e2
     have e3 := CatR.ints' hc
     subst e3
     have := run_loadCells_list (P := P) w ⟨b, off, none⟩ (l.map (Value.int .i32)) (fun j v hj => by rw [addr_add']; exact hcell j v hj)
     simpa using this
   ·show [Value.string (runesBytes l)] = [Value.string _]
    unfold runesBytes
    rw [runes_foldl]
    rfl
 unfold evConv2 at h
 split at h
 ·rename_i k h1 h2
  split at h
  ·rename_i k' n
   simp only [Option.some.injEq] at h; subst h
   rw [val_int ha]
   exact ⟨_, run_convert_int_string w src dst _ n (by rw [h1]; rfl) h2, rfl⟩
  ·cases h
 ·rename_i e h1 h2
  split at h
  ·rename_i h3
   split at h
   ·simp only [Option.some.injEq] at h; subst h
    obtain rfl : u = .slice none 0 0 := by simpa using (show [u] = [Value.slice none 0 0] from ha)
    exact runes e (fun _ => True) [] h1 h3 h2 ⟨none, 0, rfl, Nat.le_refl _, Nat.zero_le _, fun h => absurd h (by simp)⟩
   ·rename_i l
    simp only [Option.some.injEq] at h; subst h
    exact runes e G.fz l h1 h3 h2 ha
   ·rename_i r
    split at h
    ·rename_i T l hlk
     simp only [Option.some.injEq] at h; subst h
     have hv := row_view hm hlk
     obtain rfl : u = G.rowv r := by simpa using (show [u] = [G.rowv r] ∧ _ from ha).1
     exact runes e _ l h1 h3 h2 hv
    ·cases h
   ·cases h
  ·rename_i h3
   split at h
   ·rename_i r size lo n
    split at h
    ·rename_i T l hlk
     split at h
     ·rename_i hz
      subst hz
      simp only [Option.some.injEq] at h; subst h
      obtain ⟨v', e1, hs⟩ := (show ∃ v', [u] = [v'] ∧ SubR 1 lo n (G.rowv r) v' from ha)
      obtain rfl : u = v' := by simpa using e1
      have hv := (row_view hm hlk).subv (e := .int .u8) hs
      refine ⟨_, run_convBytes src e h1 h3 dst h2 hv, ?_⟩
      show [Value.string (strOfNums _)] = [Value.string ⟨(strOf _).toArray⟩]
      rfl
     ·cases h
    ·cases h
   ·cases h
  ·cases h
 ·cases h
theorem newBlk {w w' : World} {G : Gh} {base : Nat} {b : Blk} {o : Obj} (hw' : w' = w.alloc o) (hb : ∀ G' : Gh, BlkR w.heap.size w' (G'.put base ⟨w.heap.size, 0, none⟩ undef) base b) (hl : ∀ G' i, b.live G' i = some (G'.addr i).block) (hfz : ∀ b, G.fz b → b < w.heap.size) :
  NewR w w' G (G.put base ⟨w.heap.size, 0, none⟩ undef) base [b] := by
 subst hw'
 have hbl : Below w.heap.size w (w.alloc o) := (Below.refl _ _).alloc (Nat.le_refl _) _
 have hsz : (w.alloc o).heap.size = w.heap.size + 1 := by simp
 have hl0 : ∀ (j x : Nat), (lk [b] j).live (G.put base ⟨w.heap.size, 0, none⟩ undef) (base + j) = some x → j = 0 ∧ x = w.heap.size := by
  intro j x h
  cases j with
  | zero =>
   rw [show lk [b] 0 = b from rfl, hl] at h
   simp [Gh.put] at h; exact ⟨rfl, h.symm⟩
  | succ j => simp [lk, Blk.live] at h
 refine ⟨hbl, fun i hi => Gh.put_agree _ _ _ _ _ (by simp at hi; omega), fun _ h => h, fun _ h => .inl h, fun j => ?_, fun j k x hjk h1 h2 => ?_, fun j x h => ?_⟩
 ·cases j with
  | zero => exact hb G
  | succ j => simp [lk, BlkR]
 ·have := hl0 j x h1; have := hl0 k x h2; omega
 ·obtain ⟨_, rfl⟩ := hl0 j x h
  exact ⟨Nat.le_refl _, by omega, fun hf => by have := hfz _ hf; omega⟩
def ifcOf : AV → Option ((t : TypeId) → AV)
 | .int k n => some fun t => .ifc t (.int k) n true
 | .bool b => some fun t => .ifc t .bool b true
 | .str s => some fun t => .ifc t .str s true
 | _ => none
theorem ifcOf_ok {w : World} {G : Gh} {a : AV} {f : TypeId → AV} {u : Value} (h : ifcOf a = some f) (ha : ValR w G a u) (t : TypeId) : ValR w G (f t) (.iface t u) := by
 unfold ifcOf at h
 split at h <;> try (simp only [Option.some.injEq] at h; subst h)
 ·exact ⟨fun _ => ⟨u, rfl, by rw [val_int ha]; rfl, ha⟩, fun h => by cases h⟩
 ·exact ⟨fun _ => ⟨u, rfl, by rw [val_bool ha]; rfl, ha⟩, fun h => by cases h⟩
 ·exact ⟨fun _ => ⟨u, rfl, by rw [val_str ha]; rfl, ha⟩, fun h => by cases h⟩
 ·cases h
def flatSh : Sh → Bool
 | .int _ | .bool | .str => true
 | _ => false
theorem flatSh_val {w : World} {G : Gh} {e : Sh} {x : e.T} {v : Value} (h : flatSh e = true) : ValR0 w G (e.av x) v ↔ ShR w G.fz e x [v] := by
 cases e <;> first | exact Iff.rfl | cases h
def notAggV : Value → Bool
 | .agg _ => false
 | _ => true
theorem notAggV_ok {v : Value} (h : notAggV v = true) : v.cells = #[v] := by cases v <;> first | rfl | cases h
def evAssert (P : Program) (x : AV) (t : TypeId) (ok : Bool) : Option (AV × Prop) :=
 match x, P.info? t, ok with
 | .ifc t' e y b, some inf, true =>
  match P.underlying t, inf.zero with
  | some (.interface _), _ => none
  | some _, some z => if t' = t ∧ flatSh e = true ∧ e.chk e.dflt z.cells.toList = true ∧ notAggV z = true then some (.tup (.cons (e.av (bif b then y else e.dflt)) (.cons (.bool b) .nil)), True) else none
  | _, _ => none
 | _, _, _ => none
theorem evAssert_ok {P : Program} {w : World} {G : Gh} {x c : AV} {xt t : TypeId} {ok : Bool} {C : Prop} {u : Value} (h : evAssert P x t ok = some (c, C)) (hu : ValR w G x u) : ∃ r, (Instr.typeAssert u xt t ok).run P w = .ok r w ∧ ValR w G c r := by
 unfold evAssert at h
 split at h
 ·rename_i t' e y b inf hinf
  split at h
  ·cases h
  ·rename_i d z hnot hut hz
   split at h
   ·rename_i hc
    obtain ⟨rfl, hfl, hchk, hzc⟩ := hc
    simp only [Option.some.injEq, Prod.mk.injEq] at h
    obtain ⟨rfl, rfl⟩ := h
    have hzr : ValR0 w G (e.av e.dflt) z := by
     rw [flatSh_val hfl]
     have := Sh.chk_ok (w := w) (fz := G.fz) e e.dflt _ hchk
     rw [notAggV_ok hzc] at this
     exact this
    cases b with
    | true =>
     obtain ⟨v, e1, h1, h2⟩ := (show CellsR w G (.ifc t' e y true) [u] from hu).1 rfl
     obtain rfl := (List.cons.inj e1).1
     refine ⟨.tuple #[v, .bool true], ?_, _, rfl, v, _, rfl, (flatSh_val hfl).2 h2, _, _, rfl, rfl, rfl⟩
     cases d <;> first | exact absurd rfl (hnot _) | simp [Instr.typeAssert, run_underlying hut, Sem.run_pure]
    | false =>
     have e1 := (show CellsR w G (.ifc t' e y false) [u] from hu).2 rfl
     obtain rfl := (List.cons.inj e1).1
     refine ⟨.tuple #[z, .bool false], ?_, _, rfl, z, _, rfl, hzr, _, _, rfl, rfl, rfl⟩
     cases d <;> first | exact absurd rfl (hnot _) | simp [Instr.typeAssert, run_underlying hut, run_zero hinf hz]
   ·cases h
  ·cases h
 ·cases h
def isNilI (op : BinOp) (a : AV) : Option AV :=
 match op, a with
 | .eql, .ifc _ _ _ b => some (.bool (!b))
 | .neq, .ifc _ _ _ b => some (.bool b)
 | .eql, .opq b => some (.bool (!b))
 | .neq, .opq b => some (.bool b)
 | _, _ => none
def ifaceTy (P : Program) (t : TypeId) : Bool :=
 match P.underlying t with
 | some (.interface _) => true
 | _ => false
theorem ifaceTy_ok {P : Program} {t : TypeId} (h : ifaceTy P t = true) : P.underlying t = some (.interface (P.methodsAt t)) := by
 unfold ifaceTy at h
 split at h
 ·rename_i ms hu
  rw [hu]; simp [Program.methodsAt, hu]
 ·cases h
theorem isNilI_ok {P : Program} {w : World} {G : Gh} {op : BinOp} {t : TypeId} {a c : AV} {u : Value} (x : Operand) (h : isNilI op a = some c) (ht : ifaceTy P t = true) (hu : ValR w G a u) :
  ∃ r, (do eqGuard op t x (.const .nilIface) u .nilIface; binOp op t u .nilIface : Sem Value).run P w = .ok r w ∧ ValR w G c r := by
 have hut := ifaceTy_ok ht
 have cases2 : ∀ b : Bool, ((b = true → ∃ t v, u = .iface t v) ∧ (b = false → u = .nilIface)) →
   (∃ r, (do eqGuard .eql t x (.const .nilIface) u .nilIface; binOp .eql t u .nilIface : Sem Value).run P w = .ok r w ∧ ValR w G (.bool (!b)) r) ∧
   (∃ r, (do eqGuard .neq t x (.const .nilIface) u .nilIface; binOp .neq t u .nilIface : Sem Value).run P w = .ok r w ∧ ValR w G (.bool b) r) := by
  intro b hb
  cases b with
  | true =>
   obtain ⟨t', v, rfl⟩ := hb.1 rfl
   exact ⟨⟨_, by simp [eqGuard, run_eql_held_nil w t t' v hut], rfl⟩, ⟨_, by simp [eqGuard, run_neq_held_nil w t t' v hut], rfl⟩⟩
  | false =>
   obtain rfl := hb.2 rfl
   exact ⟨⟨_, by simp [eqGuard_nil_constR, run_eql_nil_nil w t hut], rfl⟩, ⟨_, by simp [eqGuard_nil_constR, run_neq_nil_nil w t hut], rfl⟩⟩
 have hi : ∀ t' e y b, a = .ifc t' e y b → ((b = true → ∃ t v, u = .iface t v) ∧ (b = false → u = .nilIface)) := by
  intro t' e y b ha
  subst ha
  have hh := (show CellsR w G (.ifc t' e y b) [u] from hu)
  exact ⟨fun hb => by obtain ⟨v, e1, _⟩ := hh.1 hb; exact ⟨_, _, (List.cons.inj e1).1⟩, fun hb => (List.cons.inj (hh.2 hb)).1⟩
 have ho : ∀ b, a = .opq b → ((b = true → ∃ t v, u = .iface t v) ∧ (b = false → u = .nilIface)) := by
  intro b ha
  subst ha
  have hh := (show CellsR w G (.opq b) [u] from hu)
  exact ⟨fun hb => by obtain ⟨t, v, e1⟩ := hh.1 hb; exact ⟨_, _, (List.cons.inj e1).1⟩, fun hb => (List.cons.inj (hh.2 hb)).1⟩
 unfold isNilI at h
 split at h <;> try (simp only [Option.some.injEq] at h; subst h)
 ·exact (cases2 _ (hi _ _ _ _ rfl)).1
 ·exact (cases2 _ (hi _ _ _ _ rfl)).2
 ·exact (cases2 _ (ho _ rfl)).1
 ·exact (cases2 _ (ho _ rfl)).2
 ·cases h
def Sh.noArr : Sh → Bool
 | .pair a b => a.noArr && b.noArr
 | .st a => a.noArr
 | .arr _ _ => false
 | _ => true
mutual
theorem key_ok {P : Program} {w : World} {G : Gh} {em : Bool} : ∀ (n : Nat) (t : TypeId) (s : Sh) (x : s.T) (v : Value) (d : Nat), eqTy P n t s = true → s.noArr = true → ValR w G (s.av x) v → (Instr.checkKey em (d + n) t v).run P w = .ok () w
 | 0, t, s, x, v, d, h, _, hx => by cases s <;> simp [eqTy] at h
 | n + 1, t, .int k, x, v, d, h, _, hx => by
  simp only [eqTy] at h
  split at h
  ·rename_i q hu
   obtain rfl : v = .int k x := by simpa using (show [v] = [Value.int k x] from hx)
   simp [Instr.checkKey, run_underlying hu, Sem.run_pure]
  ·cases h
 | n + 1, t, .bool, x, v, d, h, _, hx => by
  simp only [eqTy] at h
  split at h
  ·rename_i hu
   obtain rfl : v = .bool x := by simpa using (show [v] = [Value.bool x] from hx)
   simp [Instr.checkKey, run_underlying hu, Sem.run_pure]
  ·cases h
 | n + 1, t, .str, x, v, d, h, _, hx => by
  simp only [eqTy] at h
  split at h
  ·rename_i hu
   obtain rfl : v = .string ⟨List.toArray x⟩ := by simpa using (show [v] = [Value.string ⟨List.toArray x⟩] from hx)
   simp [Instr.checkKey, run_underlying hu, Sem.run_pure]
  ·cases h
 | n + 1, t, .st a, x, v, d, h, hna, hx => by
  simp only [eqTy] at h
  split at h
  ·rename_i fs hu
   simp only [Bool.and_eq_true, Bool.not_eq_true'] at h
   obtain ⟨hp, hf, hi⟩ := h
   obtain ⟨cs, rfl, hcx⟩ := hx
   rw [show d + (n + 1) = (d + n) + 1 from rfl, Instr.checkKey]
   simp only [Sem.run_bind, run_underlying hu, Result.andThen_ok]
   rw [← Array.forIn_toList]
   have := keyf_ok (em := em) n fs.toList a 0 x [] cs.toList d hf hna rfl ((CellsR.av a x _).1 hcx)
   simp at this ⊢
   rw [this]
   rfl
  ·cases h
 | n + 1, t, .arr m a, x, v, d, h, hna, hx => by cases hna
 | n + 1, t, .unit, x, v, d, h, _, hx => by simp [eqTy] at h
 | n + 1, t, .pair a b, x, v, d, h, _, hx => by simp [eqTy] at h
 | n + 1, t, .sl a, x, v, d, h, _, hx => by simp [eqTy] at h
theorem keyf_ok {P : Program} {w : World} {G : Gh} {em : Bool} : ∀ (n : Nat) (fs : List Field) (s : Sh) (off : Nat) (x : s.T) (c1 cx : List Value) (d : Nat), eqFs P n fs s off = true → s.noArr = true → c1.length = off → ShR w G.fz s x cx →
  (forIn fs PUnit.unit (fun f _ => (do
   if f.name ≠ "_" then Instr.checkKey em (d + n) f.type (← part f.type (c1 ++ cx).toArray f.offset)
   pure (ForInStep.yield PUnit.unit) : Sem (ForInStep PUnit)))).run P w = .ok PUnit.unit w
 | 0, fs, s, off, x, c1, cx, d, h, _, hl1, hx => by simp [eqFs] at h
 | n + 1, [], s, off, x, c1, cx, d, h, _, hl1, hx => by simp [Sem.run_pure]
 | n + 1, [f], s, off, x, c1, cx, d, h, hna, hl1, hx => by
  simp only [eqFs, Bool.and_eq_true, bne_iff_ne, ne_eq, beq_iff_eq] at h
  obtain ⟨hn, hoff, ht⟩ := h
  obtain ⟨v1, p1, r1⟩ := part_sh (P := P) (G := G) c1 [] ht hx
  rw [List.append_nil, hl1, ← hoff] at p1
  have ih := key_ok (em := em) n f.type s x v1 (d + 1) ht hna r1
  rw [show d + 1 + n = d + (n + 1) by omega] at ih
  simp only [List.forIn_cons, List.forIn_nil, hn, ne_eq, not_false_eq_true, if_true, Sem.run_bind, p1, ih, Result.andThen_ok, Sem.run_pure]
 | n + 1, f :: g :: l, s, off, x, c1, cx, d, h, hna, hl1, hx => by
  cases s with
  | pair a b =>
   simp only [eqFs, Bool.and_eq_true, bne_iff_ne, ne_eq, beq_iff_eq] at h
   obtain ⟨hn, hoff, ht, hr⟩ := h
   simp only [Sh.noArr, Bool.and_eq_true] at hna
   obtain ⟨xa, xb, rfl, hxa, hxb⟩ := hx
   obtain ⟨v1, p1, r1⟩ := part_sh (P := P) (G := G) c1 xb ht hxa
   rw [List.append_assoc, hl1, ← hoff] at p1
   have ih := key_ok (em := em) n f.type a x.1 v1 (d + 1) ht hna.1 r1
   rw [show d + 1 + n = d + (n + 1) by omega] at ih
   have ih2 := keyf_ok (em := em) n (g :: l) b (off + a.size) x.2 (c1 ++ xa) xb (d + 1) hr hna.2 (by rw [List.length_append, hl1, ShR.length a _ _ hxa]) hxb
   rw [show d + 1 + n = d + (n + 1) by omega, List.append_assoc] at ih2
   rw [List.forIn_cons]
   simp only [hn, ne_eq, not_false_eq_true, if_true, Sem.run_bind, p1, ih, Result.andThen_ok, Sem.run_pure]
   simpa using ih2
  | _ => simp [eqFs] at h
end
def mapFind (k e : Sh) (x : k.T) : List (k.T × e.T) → Option Nat
 | [] => none
 | y :: l => bif k.beq x y.1 then some 0 else (mapFind k e x l).map (· + 1)
def mapGet (k e : Sh) (x : k.T) (l : List (k.T × e.T)) : Option e.T := (mapFind k e x l).bind fun i => (l[i]?).map (·.2)
def mapPut (k e : Sh) (x : k.T) (v : e.T) (l : List (k.T × e.T)) : List (k.T × e.T) :=
 match mapFind k e x l with
 | some i => l.modify i fun y => (x, v)
 | none => l ++ [(x, v)]
def Found (es : List MapEntry) (i : Nat) (f : Option Nat) (r : Option (Nat × Value)) : Prop :=
 match f with
 | none => r = none
 | some j => ∃ y, es[j]? = some y ∧ r = some (i + j, y.val)
theorem findAsking_ok {P : Program} {w : World} {G : Gh} {n : Nat} {t : TypeId} {k e : Sh} {x : k.T} {u : Value} (hk : eqTy P n t k = true) (hn : n ≤ 10000) (hu : ValR w G (k.av x) u) : ∀ (l : List (k.T × e.T)) (es : List MapEntry) (i : Nat), AllR (EntR w G k e) l es →
  ∃ r, (Instr.findAsking t u es i).run P w = .ok r w ∧ Found es i (mapFind k e x l) r
 | [], es, i, h => by
  simp only [AllR] at h; subst h
  exact ⟨none, by simp [Instr.findAsking, Sem.run_pure], rfl⟩
 | y :: l, es, i, h => by
  obtain ⟨z, es', rfl, h1, h2⟩ := h
  have heq := eq_ok n t k x y.1 u z.key (10000 - n) hk hu (ValR.of0 h1.1 (by intro b hb; cases k <;> cases hb))
  rw [show 10000 - n + n = 10000 by omega] at heq
  have heq2 : (Op.equal t u z.key).run P w = .ok (k.beq x y.1) w := heq
  simp only [Instr.findAsking, Sem.run_bind, heq2, Result.andThen_ok, mapFind]
  cases hb : k.beq x y.1 with
  | true => exact ⟨_, by simp [Sem.run_pure], z, rfl, rfl⟩
  | false =>
   obtain ⟨r, hr, hf⟩ := findAsking_ok hk hn hu l es' (i + 1) h2
   refine ⟨r, by simpa using hr, ?_⟩
   simp only [cond_false]
   revert hf
   cases mapFind k e x l with
   | none => exact id
   | some j =>
    rintro ⟨q, q1, q2⟩
    exact ⟨q, by simpa using q1, by rw [q2]; congr 2; show i + 1 + j = i + (j + 1); omega⟩
theorem findNow_ok {P : Program} {w : World} {G : Gh} {n : Nat} {t : TypeId} {d : TypeDesc} {k e : Sh} {x : k.T} {u : Value} (hd : P.underlying t = some d) (hk : eqTy P n t k = true) (hu : ValR w G (k.av x) u) : ∀ (l : List (k.T × e.T)) (es : List MapEntry) (i : Nat), AllR (EntR w G k e) l es →
  ∀ r, Instr.findNow d u es i = some r → Found es i (mapFind k e x l) r
 | [], es, i, h, r, hr => by
  simp only [AllR] at h; subst h
  simp only [Instr.findNow, Option.some.injEq] at hr
  exact hr.symm
 | y :: l, es, i, h, r, hr => by
  obtain ⟨z, es', rfl, h1, h2⟩ := h
  have hz := ValR.of0 h1.1 (by intro b hb; cases k <;> cases hb)
  have hsame : ∀ b, Instr.sameNow d u z.key = some b → b = k.beq x y.1 := by
   intro b hb
   cases n with
   | zero => cases k <;> simp [eqTy] at hk
   | succ n =>
    cases k with
    | int q =>
     obtain rfl : u = .int q x := by simpa using (show [u] = [Value.int q x] from hu)
     have e1 : z.key = .int q y.1 := by simpa using (show [z.key] = [Value.int q y.1] from hz)
     rw [e1] at hb
     simp only [eqTy, hd] at hk
     cases d <;> simp at hk
     simp [Instr.sameNow] at hb
     exact hb.symm
    | bool =>
     obtain rfl : u = .bool x := by simpa using (show [u] = [Value.bool x] from hu)
     have e1 : z.key = .bool y.1 := by simpa using (show [z.key] = [Value.bool y.1] from hz)
     rw [e1] at hb
     simp only [eqTy, hd] at hk
     cases d <;> simp at hk
     simp [Instr.sameNow] at hb
     exact hb.symm
    | str =>
     obtain rfl : u = .string ⟨List.toArray x⟩ := by simpa using (show [u] = [Value.string ⟨List.toArray x⟩] from hu)
     have e1 : z.key = .string ⟨List.toArray y.1⟩ := by simpa using (show [z.key] = [Value.string ⟨List.toArray y.1⟩] from hz)
     rw [e1] at hb
     simp only [eqTy, hd] at hk
     cases d <;> simp at hk
     simp only [Instr.sameNow, Option.some.injEq] at hb
     rw [← hb]
     simp only [Sh.beq]
     rw [show ((⟨List.toArray x⟩ : ByteArray) == ⟨List.toArray y.1⟩) = (List.toArray x == List.toArray y.1) from rfl]
     simp
    | st a =>
     exfalso
     obtain ⟨cs, rfl, _⟩ := hu
     cases d <;> simp [Instr.sameNow] at hb
    | arr m a =>
     exfalso
     obtain ⟨cs, rfl, _⟩ := hu
     cases d <;> simp [Instr.sameNow] at hb
    | _ => simp [eqTy] at hk
  simp only [Instr.findNow] at hr
  split at hr
  ·rename_i hs
   have := hsame _ hs
   simp only [Option.some.injEq] at hr
   simp only [mapFind, ← this, cond_true]
   exact ⟨z, rfl, hr.symm⟩
  ·rename_i hs
   have := hsame _ hs
   have ih := findNow_ok hd hk hu l es' (i + 1) h2 r hr
   simp only [mapFind, ← this, cond_false]
   revert ih
   cases mapFind k e x l with
   | none => exact id
   | some j =>
    rintro ⟨q, q1, q2⟩
    exact ⟨q, by simpa using q1, by rw [q2]; congr 2; show i + 1 + j = i + (j + 1); omega⟩
  ·cases hr
theorem findKey_ok {P : Program} {w : World} {G : Gh} {n : Nat} {t : TypeId} {k e : Sh} {x : k.T} {u : Value} (hk : eqTy P n t k = true) (hn : n ≤ 10000) (hu : ValR w G (k.av x) u) {l : List (k.T × e.T)} {es : List MapEntry} (h : AllR (EntR w G k e) l es) :
  ∃ r, (Instr.findKey t u es).run P w = .ok r w ∧ Found es 0 (mapFind k e x l) r := by
 have hd : ∃ d, P.underlying t = some d := by
  cases n with
  | zero => cases k <;> simp [eqTy] at hk
  | succ n =>
   cases hu' : P.underlying t with
   | some d => exact ⟨d, rfl⟩
   | none => cases k <;> simp [eqTy, hu'] at hk
 obtain ⟨d, hd⟩ := hd
 simp only [Instr.findKey, Sem.run_bind, run_underlying hd, Result.andThen_ok]
 cases hf : Instr.findNow d u es 0 with
 | some r => exact ⟨r, by simp [Sem.run_pure], findNow_ok hd hk hu l es 0 h r hf⟩
 | none => exact findAsking_ok hk hn hu l es 0 h
theorem AllR.get {α β : Type} {R : α → β → Prop} : ∀ {l : List α} {m : List β}, AllR R l m → ∀ {i : Nat} {y : β}, m[i]? = some y → ∃ x, l[i]? = some x ∧ R x y
 | [], m, h, i, y, hy => by simp only [AllR] at h; subst h; simp at hy
 | x :: l, m, ⟨z, t, e, h1, h2⟩, i, y, hy => by
  subst e
  cases i with
  | zero => simp at hy; subst hy; exact ⟨x, rfl, h1⟩
  | succ i => obtain ⟨q, q1, q2⟩ := AllR.get h2 (by simpa using hy); exact ⟨q, by simpa using q1, q2⟩
def evLookup (P : Program) (mem : List Blk) (t : TypeId) (m x : AV) (ok : Bool) : Option (AV × Prop) :=
 match m with
 | .mp r =>
  match lk mem r, P.underlying t with
  | .map t' k e l, some (.map kt et) =>
   match AV.toSh k x, P.info? et with
   | some kx, some inf =>
    match inf.zero with
    | some z =>
     if t' = t ∧ eqTy P 12 kt k = true ∧ k.noArr = true ∧ flatSh e = true ∧ e.chk e.dflt z.cells.toList = true ∧ notAggV z = true ∧ (x.agg || (x.flat && flatSh k)) = true then
      (if ok then some (.tup (.cons (e.av ((mapGet k e kx l).getD e.dflt)) (.cons (.bool (mapGet k e kx l).isSome) .nil)), True) else some (e.av ((mapGet k e kx l).getD e.dflt), True))
     else none
    | none => none
   | _, _ => none
  | _, _ => none
 | _ => none
theorem toSh_valX {w : World} {G : Gh} {s : Sh} {a : AV} {x : s.T} {u : Value} (h : AV.toSh s a = some x) (hg : (a.agg || (a.flat && flatSh s)) = true) (hu : ValR w G a u) : ValR w G (s.av x) u := by
 by_cases ha : a.agg = true
 ·exact (toSh_val h ha hu).1
 ·simp only [ha, Bool.false_or, Bool.and_eq_true] at hg
  have hc := (ValR0.flat hg.1).1 (ValR.to0 hu (flat_tup hg.1))
  have := AV.toSh_ok s a x [u] h hc
  have hf := hg.2
  cases s <;> first | exact this | cases hf
theorem map_at {B : Nat} {w : World} {G : Gh} {mem : List Blk} (hm : MemR B w G mem) {r : Nat} {t : TypeId} {k e : Sh} {l : List (k.T × e.T)} (h : lk mem r = .map t k e l) : ∃ es clock, w.heap[(G.addr r).block]? = some (.map es clock) ∧ AllR (EntR w G k e) l es.toList := by
 have hb := hm.blk r
 rw [h] at hb
 exact hb
theorem run_getObj' {P : Program} {w : World} {b : Nat} {es : Array MapEntry} {clock : Nat} (h : w.heap[b]? = some (.map es clock)) : (getObj b).run P w = .ok (.map es clock) w := by
 simp [getObj, Sem.run, h]
theorem evLookup_ok {P : Program} {B : Nat} {w : World} {G : Gh} {mem : List Blk} (hm : MemR B w G mem) {t : TypeId} {m x c : AV} {ok : Bool} {C : Prop} {um ux : Value} (h : evLookup P mem t m x ok = some (c, C)) (hum : ValR w G m um) (hux : ValR w G x ux) :
  ∃ v, (Instr.lookup t um ux ok).run P w = .ok v w ∧ ValR w G c v := by
 unfold evLookup at h
 split at h
 ·rename_i r
  obtain rfl : um = .map (some (G.addr r).block) := by simpa using (show [um] = [Value.map _] from hum)
  split at h
  ·rename_i t' k e l kt et hlk hut
   split at h
   ·rename_i kx inf hsh hinf
    split at h
    ·rename_i z hz
     split at h
     ·rename_i hc
      obtain ⟨rfl, hk, hna, hfl, hchk, hnz, hfa⟩ := hc
      obtain ⟨es, clock, hobj, hall⟩ := map_at hm hlk
      have hkv := toSh_valX hsh hfa hux
      have hck := key_ok (em := es.isEmpty) 12 kt k kx ux 9988 hk hna hkv
      obtain ⟨rr, hfr, hfound⟩ := findKey_ok hk (by omega) hkv hall
      have hzr : ValR0 w G (e.av e.dflt) z := by
       rw [flatSh_val hfl]
       have := Sh.chk_ok (w := w) (fz := G.fz) e e.dflt _ hchk
       rw [notAggV_ok hnz] at this
       exact this
      have key : ∃ v b, (do let (v, ok) ← match ← Instr.findKey kt ux es.toList with
                              | some (_, v) => pure (v, true)
                              | none => pure (← zeroValue et, false)
                            pure (v, ok) : Sem (Value × Bool)).run P w = .ok (v, b) w ∧ ValR0 w G (e.av ((mapGet k e kx l).getD e.dflt)) v ∧ b = (mapGet k e kx l).isSome := by
       cases hmf : mapFind k e kx l with
       | none =>
        rw [hmf] at hfound
        simp only [Found] at hfound
        subst hfound
        refine ⟨z, false, by simp [hfr, run_zero hinf hz], ?_, ?_⟩
        ·simpa [mapGet, hmf] using hzr
        ·simp [mapGet, hmf]
       | some j =>
        rw [hmf] at hfound
        obtain ⟨y, hy, rfl⟩ := hfound
        obtain ⟨q, q1, q2⟩ := AllR.get hall hy
        refine ⟨y.val, true, by simp [hfr, Sem.run_pure], ?_, ?_⟩
        ·simpa [mapGet, hmf, q1] using q2.2
        ·simp [mapGet, hmf, q1]
      obtain ⟨v, b, hrun, hv, hb⟩ := key
      have hrun2 : (Instr.lookup t' (.map (some (G.addr r).block)) ux ok).run P w = .ok (if ok then .tuple #[v, .bool b] else v) w := by
       simp only [Instr.lookup, Sem.run_bind, run_underlying hut, Result.andThen_ok, run_getObj' hobj, Sem.run_pure, hck]
       simp only [Sem.run_bind, hfr, Result.andThen_ok] at hrun ⊢
       cases rr with
       | none =>
        simp only [Sem.run_bind, run_zero hinf hz, Result.andThen_ok, Sem.run_pure, Result.ok.injEq, Prod.mk.injEq, and_true] at hrun ⊢
        obtain ⟨rfl, rfl⟩ := hrun
        cases ok <;> simp
       | some pr =>
        obtain ⟨j, vv⟩ := pr
        simp only [Sem.run_bind, Result.andThen_ok, Sem.run_pure, Result.ok.injEq, Prod.mk.injEq, and_true] at hrun ⊢
        obtain ⟨rfl, rfl⟩ := hrun
        cases ok <;> simp
      refine ⟨_, hrun2, ?_⟩
      cases ok with
      | true =>
       simp only [if_true, Option.some.injEq, Prod.mk.injEq] at h
       obtain ⟨rfl, _⟩ := h
       exact ⟨_, rfl, v, _, rfl, hv, _, _, rfl, by rw [hb]; rfl, rfl⟩
      | false =>
       simp only [Bool.false_eq_true, if_false, Option.some.injEq, Prod.mk.injEq] at h
       obtain ⟨rfl, _⟩ := h
       exact ValR.of0 hv (by intro b' hb'; cases e <;> cases hb')
     ·cases h
    ·cases h
   ·cases h
  ·cases h
 ·cases h
def w1 (r : Option AV) : Option (AV × List Blk × Prop) := r.map fun a => (a, [], True)
def w2 (r : Option (AV × Prop)) : Option (AV × List Blk × Prop) := r.map fun (a, C) => (a, [], C)
def oevX (ts : List AV) : Option Operand → Option (Option AV)
 | none => some none
 | some x => (ev ts x).map some
theorem oevX_ok {w : World} {G : Gh} {ts : List AV} {a : Act} (ht : TmpsR w G ts a) {x : Option Operand} {r : Option AV} (h : oevX ts x = some r) : OV w G r (x.map a.eval) := by
 cases x with
 | none => simp only [oevX, Option.some.injEq] at h; subst h; trivial
 | some x =>
  simp only [oevX, Option.map_eq_some_iff] at h
  obtain ⟨y, hy, rfl⟩ := h
  exact ev_ok ht hy
theorem w1_ok {r : Option AV} {av : AV} {new : List Blk} {C : Prop} (h : w1 r = some (av, new, C)) : r = some av ∧ new = [] ∧ C = True := by
 simp only [w1, Option.map_eq_some_iff, Prod.mk.injEq] at h
 obtain ⟨x, hx, rfl, rfl, rfl⟩ := h
 exact ⟨hx, rfl, rfl⟩
theorem w2_ok {r : Option (AV × Prop)} {av : AV} {new : List Blk} {C : Prop} (h : w2 r = some (av, new, C)) : r = some (av, C) ∧ new = [] := by
 simp only [w2, Option.map_eq_some_iff, Prod.mk.injEq, Prod.exists] at h
 obtain ⟨x, D, hx, rfl, rfl, rfl⟩ := h
 exact ⟨hx, rfl⟩
def evRange (P : Program) (t : TypeId) (x : AV) : Option Blk :=
 match P.underlying t, x with
 | some .string, .str s => some (.iter s 0)
 | _, _ => none
def bCells (s : List UInt8) : List Value := s.map fun (b : UInt8) => Value.int .u8 ((b.toNat : Nat) : Int)
def zCells (n : Nat) : List Value := List.replicate n (Value.int .u8 0)
theorem CatR.bytes {w : World} {fz : Nat → Prop} : ∀ (s : List UInt8), CatR (ShR w fz (.int .u8)) (s.map fun b => ((b.toNat : Nat) : Int)) (bCells s)
 | [] => rfl
 | b :: s => ⟨[_], bCells s, rfl, rfl, CatR.bytes s⟩
theorem push_modify (h : Array Obj) (o : Obj) (f : Obj → Obj) : (h.push o).modify h.size f = h.push (f o) := by
 apply Array.ext
 ·simp
 ·intro i h1 h2
  rw [Array.getElem_modify]
  simp only [Array.getElem_push]
  split
  ·rename_i e; subst e; simp
  ·rename_i e
   split
   ·rfl
   ·rename_i e2; simp at h2; omega
theorem run_toBytes {P : Program} (w : World) {src dst el : TypeId} {d : TypeDesc} (s : ByteArray) (hs : P.underlying src = some d) (hd : P.underlying dst = some (.slice el)) (he : P.underlying el = some (.int .u8)) :
  ∃ w', (convert src dst (.string s)).run P w = .ok (.slice (some ⟨w.heap.size, 0, none⟩) s.size (grownCap w s.size 0 el)) w' ∧ Below w.heap.size w w' ∧
   w'.heap = w.heap.push (.cells (bCells s.data.toList ++ zCells (grownCap w s.size 0 el - s.size)).toArray el (grownCap w s.size 0 el, grownCap w s.size 0 el + 1)) := by
 have hge := grownCap_ge w s.size 0 el
 have hsz : s.size = s.data.size := rfl
 obtain ⟨cap, hgc⟩ : ∃ cap, grownCap w s.size 0 el = cap := ⟨_, rfl⟩
 rw [hgc] at hge ⊢
 have hq : (Question.appendCap s.size 0 el).cut (w.tape w.drawn (Question.appendCap s.size 0 el)) = cap := hgc
 obtain ⟨arr, harr⟩ : ∃ arr, (bCells s.data.toList ++ zCells (cap - s.size)).toArray = arr := ⟨_, rfl⟩
 have hn : arr.size = cap := by rw [← harr]; simp [bCells, zCells]; omega
 have e1 : (Array.map (fun (b : UInt8) => Value.int .u8 ((b.toNat : Nat) : Int)) s.data ++ Array.replicate (cap - s.size) (Value.int .u8 0)) = arr := by
  rw [← harr]; apply Array.ext'; simp [bCells, zCells]
 rw [harr]
 refine ⟨(w.drew.alloc (.cells arr el)).freeze ⟨w.heap.size, cap, none⟩ 1, ?_, ?_, ?_⟩
 ·simp only [convert, run_underlying hs, run_underlying hd, run_underlying he, Sem.run_bind, Result.andThen_ok, Conv.stringToBytes]
  simp [Question.forced, newRow, markStringish, shape, freeze, hq, e1]
  have hr1 : Sem.run P (Go.newRow el arr) w.drew = .ok ⟨w.heap.size, 0, none⟩ (w.drew.alloc (.cells arr el)) := by simp [Go.newRow]
  have hr2 : (w.drew.alloc (.cells arr el)).heap[w.heap.size]? = some (.cells arr el) := alloc_new w.drew _
  rw [hr1]
  simp only [Result.andThen, Sem.run, World.shape?, hr2, hn]
 ·refine ⟨rfl, rfl, rfl, ?_, fun k hk => ?_⟩
  ·simp [World.freeze]
  ·simp [World.freeze, Array.getElem?_modify]
   rw [if_neg (by omega)]
   exact heap_alloc_old w.drew _ hk
 ·simp only [World.freeze, if_neg (show ¬ (1 : Nat) = 0 by decide)]
  have : (w.drew.alloc (.cells arr el)).heap = w.heap.push (.cells arr el) := rfl
  rw [this, push_modify]
  simp
def runesGo (s : ByteArray) : (bound i : Nat) → List Int
 | 0, _ => []
 | b + 1, i => if i < s.size then ((Utf8.decode s i).1 : Int) :: runesGo s b (i + (Utf8.decode s i).2) else []
def runesL (s : List UInt8) : List Int := runesGo ⟨s.toArray⟩ s.length 0
def rCells (l : List Int) : List Value := l.map (Value.int .i32)
theorem runesFrom_eq (s : ByteArray) : ∀ (b i : Nat) (acc : Array Value), Conv.runesFrom s b i acc = acc ++ (rCells (runesGo s b i)).toArray
 | 0, i, acc => by simp [Conv.runesFrom, runesGo, rCells]
 | b + 1, i, acc => by
  rw [Conv.runesFrom, runesGo]
  split
  ·simp only [runesFrom_eq s b, rCells, List.map_cons]
   apply Array.ext'
   simp
  ·simp [rCells]
theorem CatR.runes {w : World} {fz : Nat → Prop} : ∀ (l : List Int), CatR (ShR w fz (.int .i32)) l (rCells l)
 | [] => rfl
 | b :: l => ⟨[_], rCells l, rfl, rfl, CatR.runes l⟩
theorem run_toRunes {P : Program} (w : World) {src dst el : TypeId} {d : TypeDesc} (s : List UInt8) (hs : P.underlying src = some d) (hd : P.underlying dst = some (.slice el)) (he : P.underlying el = some (.int .i32)) :
  ∃ w', (convert src dst (.string ⟨s.toArray⟩)).run P w = .ok (.slice (some ⟨w.heap.size, 0, none⟩) (runesL s).length (grownCap w (runesL s).length 0 el)) w' ∧ Below w.heap.size w w' ∧
   w'.heap = w.heap.push (.cells (rCells (runesL s) ++ List.replicate (grownCap w (runesL s).length 0 el - (runesL s).length) (Value.int .i32 0)).toArray el (0, 0)) := by
 obtain ⟨cap, hgc⟩ : ∃ cap, grownCap w (runesL s).length 0 el = cap := ⟨_, rfl⟩
 rw [hgc]
 have hq : (Question.appendCap (runesL s).length 0 el).cut (w.tape w.drawn (Question.appendCap (runesL s).length 0 el)) = cap := hgc
 have e0 : Conv.runesFrom ⟨s.toArray⟩ (⟨s.toArray⟩ : ByteArray).size 0 #[] = (rCells (runesL s)).toArray := by
  rw [runesFrom_eq]; simp [runesL, str_size]
 have hsz : (rCells (runesL s)).length = (runesL s).length := by simp [rCells]
 have e1 : (rCells (runesL s)).toArray ++ Array.replicate (cap - (runesL s).length) (Value.int .i32 0) = (rCells (runesL s) ++ List.replicate (cap - (runesL s).length) (Value.int .i32 0)).toArray := by
  apply Array.ext'; simp
 refine ⟨w.drew.alloc (.cells (rCells (runesL s) ++ List.replicate (cap - (runesL s).length) (Value.int .i32 0)).toArray el), ?_, ?_, rfl⟩
 ·simp only [convert, run_underlying hs, run_underlying hd, run_underlying he, Sem.run_bind, Result.andThen_ok, Conv.stringToRunes, e0]
  simp [Question.forced, newRow, hq, e1, hsz]
  have hr1 : ∀ arr, Sem.run P (Go.newRow el arr) w.drew = .ok ⟨w.heap.size, 0, none⟩ (w.drew.alloc (.cells arr el)) := fun arr => by simp [Go.newRow]
  rw [hr1]
  rfl
 ·exact ⟨rfl, rfl, rfl, by simp, fun k hk => heap_alloc_old w.drew _ hk⟩
def evToBytes (P : Program) (src dst : TypeId) (a : AV) : Option (Blk × Prop) :=
 match P.underlying src, P.underlying dst, a with
 | some _, some (.slice el), .str s =>
  match P.underlying el with
  | some (.int .u8) => if el = 5 then some (.row el (.int .u8) (s.map fun b => ((b.toNat : Nat) : Int)), s.length ≤ 140737488355328) else none
  | some (.int .i32) => some (.row el (.int .i32) (runesL s), (runesL s).length ≤ 35184372088832)
  | _ => none
 | _, _, _ => none
def evMakeMap (P : Program) (t : TypeId) : Option Blk :=
 match P.underlying t with
 | some (.map kt et) =>
  match shOf P 12 kt, shOf P 12 et with
  | some k, some e => some (.map t k e [])
  | _, _ => none
 | _ => none
def evMore (P : Program) (ts : List AV) (mem : List Blk) (base : Nat) (o : Oper) : Option (AV × List Blk × Prop) :=
 match o.op with
 | .slice t x lo hi mx =>
  match ev ts x, oevX ts lo, oevX ts hi, oevX ts mx with
  | some a, some l, some h, some m => w2 (evSlice2 P mem t a l h m)
  | _, _, _, _ => none
 | .indexAddr t x i =>
  match ev ts x, ev ts i with
  | some a, some b => w2 (evIndexAddr2 P mem t a b)
  | _, _ => none
 | .convert s d x =>
  match ev ts x with
  | some a =>
   match evToBytes P s d a with
   | some (b, C) => some (.row base, [b], C)
   | none => w1 (evConv2 P mem s d a)
  | none => none
 | .makeSlice t l c => (evMake2 P ts t l c).map fun (b, C) => (.row base, [b], C)
 | .range t x =>
  match ev ts x with
  | some a => (evRange P t a).map fun b => (.ptr base [], [b], True)
  | none => none
 | .makeMap t none => (evMakeMap P t).map fun b => (.mp base, [b], True)
 | .lookup t m x ok =>
  match ev ts m, ev ts x with
  | some a, some b => w2 (evLookup P mem t a b ok)
  | _, _ => none
 | .makeInterface t x =>
  match ev ts x with
  | some a =>
   match ifcOf a with
   | some f => if P.concrete t = true then w1 (some (f t)) else none
   | none => none
  | none => none
 | .typeAssert x _ t ok =>
  match ev ts x with
  | some a => w2 (evAssert P a t ok)
  | none => none
 | .binOp op t x y _ =>
  match y, ev ts x with
  | .const .nilIface, some a => if ifaceTy P t = true then w1 (isNilI op a) else none
  | _, _ => none
 | .call c =>
  match c.callee with
  | .builtin .len =>
   match c.args.toList, c.argTypes.toList with
   | [x], [t] =>
    match ev ts x with
    | some a => w1 (evLen2 P t a)
    | none => none
   | _, _ => none
  | _ => none
 | _ => none
theorem pure_new {P : Program} {o : Oper} {ts : List AV} {mem : List Blk} {base : Nat} {av : AV} {new : List Blk} {C : Prop}
  (h : ∀ (B : Nat) (w : World) (G : Gh) (a : Act), C → MemR B w G mem → TmpsR w G ts a → ∃ v w' G', (execOp a.eval o).run P w = .ok (.value v) w' ∧ NewR w w' G G' base new ∧ ValR w' G' av v) : PureOp P o ts mem base av new C := by
 intro B w G a hC hm ht _ _ next Q hn
 obtain ⟨v, w', G', hr, hN, hv⟩ := h B w G a hC hm ht
 unfold Oper.wp
 rw [hr]
 exact hn v w' G' hN hv
theorem evMore_ok {P : Program} {o : Oper} {ts : List AV} {mem : List Blk} {base : Nat} {av : AV} {new : List Blk} {C : Prop} (he : evMore P ts mem base o = some (av, new, C)) : PureOp P o ts mem base av new C := by
 unfold evMore at he
 split at he
 ·rename_i t x lo hi mx ho
  split at he
  ·rename_i a l h m hx hlo hhi hmx
   obtain ⟨h1, rfl⟩ := w2_ok he
   refine pure_val fun B w G a' hC hm ht => ?_
   obtain ⟨r, hr, hv⟩ := evSlice2_ok hm h1 hC (ev_ok ht hx) (oevX_ok ht hlo) (oevX_ok ht hhi) (oevX_ok ht hmx)
   exact ⟨r, by simp only [execOp, ho, Sem.run_bind, hr, Result.andThen_ok, Sem.run_pure], hv⟩
  ·cases he
 ·rename_i t x i ho
  split at he
  ·rename_i a b hx hi
   obtain ⟨h1, rfl⟩ := w2_ok he
   refine pure_val fun B w G a' hC hm ht => ?_
   obtain ⟨r, hr, hv⟩ := evIndexAddr2_ok h1 hC hm (ev_ok ht hx) (ev_ok ht hi)
   exact ⟨r, by simp only [execOp, ho, Sem.run_bind, hr, Result.andThen_ok, Sem.run_pure], hv⟩
  ·cases he
 ·rename_i s d x ho
  split at he
  ·rename_i a hx
   split at he
   ·rename_i b D hb
    simp only [Option.some.injEq, Prod.mk.injEq] at he
    obtain ⟨rfl, rfl, rfl⟩ := he
    unfold evToBytes at hb
    split at hb
    ·rename_i d' el s' hs hd
     split at hb
     ·rename_i hel
      have hBT : el = 5 := by
       by_cases h : el = 5
       ·exact h
       ·rw [if_neg h] at hb; cases hb
      rw [if_pos hBT] at hb
      simp only [Option.some.injEq, Prod.mk.injEq] at hb
      obtain ⟨rfl, rfl⟩ := hb
      refine pure_new fun B w G a' hC hm ht => ?_
      have e1 := val_str (ev_ok ht hx)
      obtain ⟨w', hr, hbel, hheap⟩ := run_toBytes (P := P) w ⟨s'.toArray⟩ hs hd hel
      have hge := grownCap_ge w s'.length 0 el
      have hle := grownCap_le_maxLen w s'.length 0 el (by unfold maxLen; omega)
      have hsl : (⟨s'.toArray⟩ : ByteArray).size = s'.length := str_size s'
      rw [hsl] at hr hheap
      refine ⟨.slice (some ⟨w.heap.size, 0, none⟩) s'.length (grownCap w s'.length 0 el), w', _, by simp only [execOp, ho, e1, Sem.run_bind, hr, Result.andThen_ok, Sem.run_pure], newRowX (n := s'.length) (cap := grownCap w s'.length 0 el) (cells := bCells s') (rest := zCells (grownCap w s'.length 0 el - s'.length)) (grownCap w s'.length 0 el, grownCap w s'.length 0 el + 1) (.inr ?_) rfl hheap hbel ?_ (by simp) hge hle ?_ hm.fz, ?_⟩
      ·exact ⟨hBT, by simp [bCells, zCells]; omega⟩
      ·exact CatR.bytes s'
      ·simp [bCells, zCells, Sh.size]; omega
      ·show [Value.slice _ _ _] = [_] ∧ _
       simp [Gh.put, Value.oneCell']
     ·rename_i hel
      simp only [Option.some.injEq, Prod.mk.injEq] at hb
      obtain ⟨rfl, rfl⟩ := hb
      refine pure_new fun B w G a' hC hm ht => ?_
      have e1 := val_str (ev_ok ht hx)
      obtain ⟨w', hr, hbel, hheap⟩ := run_toRunes (P := P) w s' hs hd hel
      have hge := grownCap_ge w (runesL s').length 0 el
      have hle := grownCap_le_maxLen w (runesL s').length 0 el (by unfold maxLen; omega)
      refine ⟨.slice (some ⟨w.heap.size, 0, none⟩) (runesL s').length (grownCap w (runesL s').length 0 el), w', _, by simp only [execOp, ho, e1, Sem.run_bind, hr, Result.andThen_ok, Sem.run_pure], newRowX (n := (runesL s').length) (cap := grownCap w (runesL s').length 0 el) (cells := rCells (runesL s')) (rest := List.replicate (grownCap w (runesL s').length 0 el - (runesL s').length) (Value.int .i32 0)) (0, 0) (.inl rfl) rfl hheap hbel ?_ (by simp) hge hle ?_ hm.fz, ?_⟩
      ·exact CatR.runes _
      ·simp [rCells, Sh.size]; omega
      ·show [Value.slice _ _ _] = [_] ∧ _
       simp [Gh.put, Value.oneCell']
     ·cases hb
    ·cases hb
   ·obtain ⟨h1, rfl, rfl⟩ := w1_ok he
    refine pure_val fun B w G a' hC hm ht => ?_
    obtain ⟨r, hr, hv⟩ := evConv2_ok hm h1 (ev_ok ht hx)
    exact ⟨r, by simp only [execOp, ho, Sem.run_bind, hr, Result.andThen_ok, Sem.run_pure], hv⟩
  ·cases he
 ·rename_i t l c ho
  simp only [Option.map_eq_some_iff, Prod.mk.injEq, Prod.exists] at he
  obtain ⟨b, D, hb, rfl, rfl, rfl⟩ := he
  exact evMake2_ok ho hb
 ·rename_i t x ho
  split at he
  ·rename_i a hx
   simp only [Option.map_eq_some_iff, Prod.mk.injEq] at he
   obtain ⟨b, hb, rfl, rfl, rfl⟩ := he
   unfold evRange at hb
   split at hb
   ·rename_i s hut
    simp only [Option.some.injEq] at hb
    subst hb
    refine pure_new fun B w G a' hC hm ht => ?_
    have e1 := val_str (ev_ok ht hx)
    refine ⟨_, _, _, by simp only [execOp, ho, e1, Sem.run_bind, run_range_string w t _ hut, Result.andThen_ok, Sem.run_pure]; rfl, newBlk (o := .stringIter ⟨s.toArray⟩ 0) rfl (fun G' => ⟨by simp [Gh.put], by simp only [Gh.put, if_true]; exact alloc_new w _⟩) (fun _ _ => rfl) hm.fz, ?_⟩
    show [Value.pointer _] = [Value.pointer _]
    simp [Gh.put, offs]
   ·cases hb
  ·cases he
 ·rename_i t ho
  simp only [Option.map_eq_some_iff, Prod.mk.injEq] at he
  obtain ⟨b, hb, rfl, rfl, rfl⟩ := he
  unfold evMakeMap at hb
  split at hb
  ·split at hb
   ·rename_i k e hk he
    simp only [Option.some.injEq] at hb
    subst hb
    refine pure_new fun B w G a' hC hm ht => ?_
    refine ⟨.map (some w.heap.size), w.alloc (.map #[] 0), _, ?_, newBlk (o := .map #[] 0) rfl (fun G' => ⟨#[], 0, by simp only [Gh.put, if_true]; exact alloc_new w _, rfl⟩) (fun _ _ => rfl) hm.fz, ?_⟩
    ·simp only [execOp, ho, Option.map_none, Instr.makeMap, newObj, Sem.run_bind, Sem.run, Result.andThen]
     rfl
    ·show [Value.map _] = [Value.map _]
     simp [Gh.put]
   ·cases hb
  ·cases hb
 ·rename_i t m x ok ho
  split at he
  ·rename_i a b hx hi
   obtain ⟨h1, rfl⟩ := w2_ok he
   refine pure_val fun B w G a' hC hm ht => ?_
   obtain ⟨r, hr, hv⟩ := evLookup_ok hm h1 (ev_ok ht hx) (ev_ok ht hi)
   exact ⟨r, by simp only [execOp, ho, Sem.run_bind, hr, Result.andThen_ok, Sem.run_pure], hv⟩
  ·cases he
 ·rename_i t x ho
  split at he
  ·rename_i a hx
   split at he
   ·rename_i f hf
    split at he
    ·rename_i hc
     obtain ⟨h1, rfl, rfl⟩ := w1_ok he
     simp only [Option.some.injEq] at h1; subst h1
     refine pure_val fun B w G a' hC hm ht => ?_
     exact ⟨_, by simp only [execOp, ho, Sem.run_bind, run_makeInterface (h := hc), Result.andThen_ok, Sem.run_pure], ifcOf_ok hf (ev_ok ht hx) t⟩
    ·cases he
   ·cases he
  ·cases he
 ·rename_i x xt t ok ho
  split at he
  ·rename_i a hx
   obtain ⟨h1, rfl⟩ := w2_ok he
   refine pure_val fun B w G a' hC hm ht => ?_
   obtain ⟨r, hr, hv⟩ := evAssert_ok (xt := xt) h1 (ev_ok ht hx)
   exact ⟨r, by simp only [execOp, ho, Sem.run_bind, hr, Result.andThen_ok, Sem.run_pure], hv⟩
  ·cases he
 ·rename_i op t x y ty ho
  split at he
  ·rename_i a hx
   split at he
   ·rename_i ht
    obtain ⟨h1, rfl, rfl⟩ := w1_ok he
    refine pure_val fun B w G a' hC hm htm => ?_
    obtain ⟨r, hr, hv⟩ := isNilI_ok x h1 ht (ev_ok htm hx)
    refine ⟨r, ?_, hv⟩
    simp only [execOp, ho]
    rw [show (a'.eval (.const .nilIface)) = .nilIface from rfl, Sem.run_bind, hr]
    rfl
   ·cases he
  ·cases he
 ·rename_i c ho
  obtain ⟨callee, args, tys⟩ := c
  simp only at he
  split at he
  ·split at he
   ·rename_i x t hargs htys
    split at he
    ·rename_i a hx
     obtain ⟨h1, rfl, rfl⟩ := w1_ok he
     have e1 : args = #[x] := by apply Array.ext'; simpa using hargs
     have e2 : tys = #[t] := by apply Array.ext'; simpa using htys
     refine pure_val fun B w G a' hC hm ht => ?_
     obtain ⟨r, hr, hv⟩ := evLen2_ok (ty := o.type) h1 (ev_ok ht hx)
     refine ⟨r, ?_, hv⟩
     simp only [execOp, ho, resolve, Sem.run_bind, Sem.run_pure, Result.andThen_ok, invoke, builtin, e1, e2, List.map_toArray, List.map_cons, List.map_nil, hr]
    ·cases he
   ·cases he
  ·cases he
 ·cases he
theorem newRowL {w : World} {G : Gh} {base : Nat} {t : TypeId} {e : Sh} {c : AV} {cells : Array Value} (hc : CellsR w G c cells.toList) (hl : cells.toList.length = e.size) (hfz : ∀ b, G.fz b → b < w.heap.size) (hr : ∀ r ∈ c.refs, r < base) :
  NewR w (w.alloc (.cells cells t)) G (G.put base ⟨w.heap.size, 0, none⟩ (.slice (some ⟨w.heap.size, 0, none⟩) 1 1)) base [.rowl t e [] (some (true, c))] := by
 have hb : Below w.heap.size w (w.alloc (.cells cells t)) := (Below.refl _ _).alloc (Nat.le_refl _) _
 have hsz : (w.alloc (.cells cells t)).heap.size = w.heap.size + 1 := by simp
 have hl0 : ∀ (j x : Nat), (lk [Blk.rowl t e [] (some (true, c))] j).live (G.put base ⟨w.heap.size, 0, none⟩ (.slice (some ⟨w.heap.size, 0, none⟩) 1 1)) (base + j) = some x → j = 0 ∧ x = w.heap.size := by
  intro j x h
  cases j with
  | zero =>
   simp only [lk, Blk.live, Gh.put, List.getD_cons_zero, Nat.add_zero, if_true] at h
   simp [rowBlk] at h; exact ⟨rfl, h.symm⟩
  | succ j => simp [lk, Blk.live] at h
 have hag : ∀ i, i ≠ base → Agree G (G.put base ⟨w.heap.size, 0, none⟩ (.slice (some ⟨w.heap.size, 0, none⟩) 1 1)) i := fun i hi => Gh.put_agree _ _ _ _ _ hi
 refine ⟨hb, fun i hi => hag i (by simp at hi; omega), fun _ h => h, fun _ h => .inl h, fun j => ?_, fun j k x hjk h1 h2 => ?_, fun j x h => ?_⟩
 ·cases j with
  | zero =>
   refine ⟨?_, [], cells.toList, ?_, rfl, fun _ => CellsR.keep (G := G) (G' := G.put base ⟨w.heap.size, 0, none⟩ (.slice (some ⟨w.heap.size, 0, none⟩) 1 1)) ⟨hb.size, fun b h hlt => hb.block b hlt, fun _ h => h⟩ c _ (fun r hh => hag r (by have := hr r hh; omega)) hc, fun h => by cases h⟩
   ·intro g o n cap hv hcap
    simp only [Gh.put, Nat.add_zero, if_true] at hv ⊢
    obtain ⟨h1, _, _⟩ := Value.slice.inj hv
    exact Option.some.inj h1
   ·simp only [Gh.put, Nat.add_zero, if_true]
    refine .inr ⟨w.heap.size, [], 1, [], rfl, by omega, Nat.le_refl _, ?_, by simp [lstN], by unfold maxLen; omega, by simp [lstN]; simpa using hl, by simp; simpa using hl⟩
    refine ⟨(0, 0), ?_, .inl rfl⟩
    simp only [List.nil_append, List.append_nil]
    rw [alloc_new]
  | succ j => simp [lk, BlkR]
 ·have := hl0 j x h1; have := hl0 k x h2; omega
 ·obtain ⟨_, rfl⟩ := hl0 j x h
  exact ⟨Nat.le_refl _, by omega, fun hf => by have := hfz _ hf; omega⟩
def bldFx (P : Program) (ts : List AV) (n : Nat) (o : Oper) : Option (Blk × Prop) :=
 match o.op with
 | .buildSlice t 1 parts =>
  match P.underlying t with
  | some (.slice el) =>
   match P.info? el, shOf P 12 el with
   | some inf, some e =>
    match inf.zero with
    | some z =>
     if decide (inf.size = e.size) && (decide (0 < inf.size) && (decide (inf.size ≤ 16777216) && (AV.st (.cons (zav P 12 el) .nil)).chk (zeroRow z.cells (1 * inf.size)).toList)) then
      match setParts (fun i => if i = 0 then some (.fld 0 0, inf.size) else none) ts parts.toList (.st (.cons (zav P 12 el) .nil)) with
      | some (.st (.cons c .nil), C) => if (decide (c.size = e.size) && refsLt n c) = true then some (.rowl el e [] (some (true, c)), C) else none
      | _ => none
     else none
    | none => none
   | _, _ => none
  | _ => none
 | _ => none
theorem bldFx_ok {P : Program} {o : Oper} {ts : List AV} {mem : List Blk} {base : Nat} {b : Blk} {C : Prop} (h : bldFx P ts base o = some (b, C)) : PureOp P o ts mem base (.row base) [b] C := by
 unfold bldFx at h
 split at h
 ·rename_i t parts ho
  split at h
  ·rename_i el hut
   split at h
   ·rename_i inf e hinf hsh
    split at h
    ·rename_i z hz
     split at h
     ·rename_i hcond
      simp only [Bool.and_eq_true, decide_eq_true_eq] at hcond
      obtain ⟨hsz, hpos, h24, hchk⟩ := hcond
      split at h
      ·rename_i c D hset
       split at h
       ·rename_i hcr
        simp only [Bool.and_eq_true, decide_eq_true_eq] at hcr
        obtain ⟨hcs, href⟩ := hcr
        simp only [Option.some.injEq, Prod.mk.injEq] at h
        obtain ⟨rfl, rfl⟩ := h
        intro B w G a hC hm ht hrt hrm next Q hn
        have hmap : (parts.map fun (i, x) => (i, a.eval x)).toList = parts.toList.map fun (i, x) => (i, a.eval x) := by simp
        obtain ⟨cells, h1, h2⟩ := setParts_ok (w := w) (G := G) ht (fun i => if i = 0 then some (.fld 0 0, inf.size) else none) (fun i => some (i * inf.size, inf.size)) (fun i s n hp => by
         split at hp
         ·rename_i h0
          simp only [Option.some.injEq, Prod.mk.injEq] at hp
          obtain ⟨rfl, rfl⟩ := hp
          simp [offs, h0]
         ·cases hp) _ _ _ _ _ hset hC (AV.chk_ok _ _ hchk)
        obtain ⟨c1, c2, e1, hc1, hc2⟩ := (show ∃ c1 c2, cells.toList = c1 ++ c2 ∧ CellsR w G c c1 ∧ CellsR w G .nil c2 from h2)
        obtain rfl : c2 = [] := hc2
        rw [List.append_nil] at e1
        have hrun : (execOp a.eval o).run P w = .ok (.value (.slice (some ⟨w.heap.size, 0, none⟩) 1 1)) (w.alloc (.cells cells el)) := by
         have h0 : ¬ 1 * inf.size = 0 := by omega
         have hfill : Instr.fill (fun i => some (i * inf.size, inf.size)) ((Array.range (1 * inf.size)).map (fun i => z.cells[i % z.cells.size]!)) (parts.map fun (i, x) => (i, a.eval x)).toList = some cells := by
          rw [hmap]; exact h1
         simp only [execOp, ho, Instr.buildSlice, Sem.run_bind, run_underlying hut, Result.andThen_ok, run_sz hinf]
         rw [if_neg (show ¬ 1 * inf.size > 2 ^ 24 by have : (2 : Nat) ^ 24 = 16777216 := (by decide); omega)]
         simp only [h0, if_false, Sem.run_bind, run_zero hinf hz, Sem.run_pure, Result.andThen_ok] at hfill ⊢
         rw [hfill]
         simp only [newObj, Go.newRow, Sem.run_bind, Sem.run, Result.andThen]
         rfl
        unfold Oper.wp
        rw [hrun]
        refine hn _ _ _ (newRowL (by rw [e1]; exact hc1) (by rw [e1, CellsR.length c c1 hc1, hcs]) hm.fz (fun r hr => refsLt_ok href r hr)) ?_
        show [Value.slice _ _ _] = [_] ∧ _
        simp [Gh.put, Value.oneCell']
       ·cases h
      ·cases h
     ·cases h
    ·cases h
   ·cases h
  ·cases h
 ·cases h
inductive Hint where
 | none
 | dec (b : Bool)
 | sel
 | call (res : AV) (new : List Blk)
 | same
 | bstr (U : Nat)
 | inp (e : Sh) (l : List e.T) (m : Option Nat)
 | mv (e : Sh) (l : List e.T)
def SameFn (P : Program) (g : FuncId) : Prop := ∃ fn, P.funcs[g]? = some fn ∧ (fn.name == "runtime.NumGoroutine") = false ∧ fn.body.isNone = true ∧ Extern.findNext fn = none ∧ Extern.find fn = some Extern.AbiNoEscape.same
def evSame (P : Program) (ts : List AV) (f : Operand) (args : List Operand) : Option (AV × List Blk × Prop) :=
 match ev ts f, args with
 | some (.fn g .nil), [x] =>
  match ev ts x with
  | some a => some (a, [], SameFn P g)
  | none => none
 | _, _ => none
theorem evSame_ok {P : Program} {o : Oper} {ts : List AV} {mem : List Blk} {base : Nat} {f : Operand} {args : Array Operand} {tys : Array TypeId} {av : AV} {new : List Blk} {C : Prop}
  (ho : o.op = .call { callee := .value f, args := args, argTypes := tys }) (h : evSame P ts f args.toList = some (av, new, C)) : PureOp P o ts mem base av new C := by
 unfold evSame at h
 split at h
 ·rename_i g x hf hx
  split at h
  ·rename_i u hu
   simp only [Option.some.injEq, Prod.mk.injEq] at h
   obtain ⟨rfl, rfl, rfl⟩ := h
   refine pure_val fun B w G a hC hm ht => ?_
   obtain ⟨vs, e1, hcv⟩ := (show ∃ vs : List Value, [a.eval f] = [Value.func (.func g) #[] vs.toArray] ∧ CellsR w G .nil vs from ev_ok ht hf)
   obtain rfl : vs = [] := hcv
   have ef : a.eval f = .func (.func g) #[] #[] := by simpa using e1
   have e2 : args = #[x] := by apply Array.ext'; simpa using hx
   obtain ⟨fn, h1, h2, h3, h4, h5⟩ := hC
   refine ⟨a.eval x, ?_, ev_ok ht hu⟩
   simp only [execOp, ho, resolve, ef, Deferred.ofValue, Sem.run_bind, Sem.run_pure, Result.andThen_ok, invoke]
   rw [run_callFunc_extern h1 h2 h3 h4 h5, e2, show (#[] ++ Array.map a.eval #[x] ++ #[] : Array Value) = #[a.eval x] by simp]
   rfl
  ·cases h
 ·cases h
def selAV (c : Bool) (a b : AV) : Option AV :=
 match a, b with
 | .bool x, .bool y => some (.bool (cond c x y))
 | .int k x, .int k' y => if k = k' then some (.int k (cond c x y)) else none
 | .str x, .str y => some (.str (cond c x y))
 | _, _ => none
theorem selAV_ok {w : World} {G : Gh} {c : Bool} {a b r : AV} {u v : Value} (h : selAV c a b = some r) (ha : ValR w G a u) (hb : ValR w G b v) : ValR w G r (if c then u else v) := by
 unfold selAV at h
 split at h
 ·simp only [Option.some.injEq] at h; subst h; cases c <;> assumption
 ·split at h
  ·rename_i hk; subst hk; simp only [Option.some.injEq] at h; subst h; cases c <;> assumption
  ·cases h
 ·simp only [Option.some.injEq] at h; subst h; cases c <;> assumption
 ·cases h
def oev (ts : List AV) : Option Operand → Option (Option AV)
 | none => some none
 | some x => (ev ts x).map some
theorem oev_ok {w : World} {G : Gh} {ts : List AV} {a : Act} (ht : TmpsR w G ts a) {x : Option Operand} {r : Option AV} (h : oev ts x = some r) : OV w G r (x.map a.eval) := by
 cases x with
 | none => simp only [oev, Option.some.injEq] at h; subst h; trivial
 | some x =>
  simp only [oev, Option.map_eq_some_iff] at h
  obtain ⟨y, hy, rfl⟩ := h
  exact ev_ok ht hy
def minI (a b : AV) : Option AV :=
 match a, b with
 | .int k x, .int k' y => if k = k' then some (.int k (if y < x then y else x)) else none
 | _, _ => none
def maxI (a b : AV) : Option AV :=
 match a, b with
 | .int k x, .int k' y => if k = k' then some (.int k (if y > x then y else x)) else none
 | _, _ => none
def v1 (r : Option AV) : Option (AV × List Blk × Prop) := r.map fun a => (a, [], True)
def v2 (r : Option (AV × Prop)) : Option (AV × List Blk × Prop) := r.map fun (a, C) => (a, [], C)
def evPure (P : Program) (ts : List AV) (mem : List Blk) (base : Nat) (o : Oper) (h : Hint) : Option (AV × List Blk × Prop) :=
 match o.op with
 | .move x => v1 (ev ts x)
 | .assign x => v1 (ev ts x)
 | .pick c a b =>
  match h with
  | .sel =>
   match ev ts c, ev ts a, ev ts b with
   | some (.bool t), some x, some y => v1 (selAV t x y)
   | _, _, _ => none
  | _ =>
   match ev ts c with
   | some (.bool true) => v1 (ev ts a)
   | some (.bool false) => v1 (ev ts b)
   | _ => none
 | .alloc t => (evAlloc P t).map fun c => (.ptr base [], [.box t c], True)
 | .box t x => (evBox ts x).map fun c => (.ptr base [], [.box t c], True)
 | .build t parts => v2 (evBuild P ts t parts.toList)
 | .buildSlice t len parts =>
  match h with
  | .sel => (bldFx P ts base o).map fun (b, C) => (.row base, [b], C)
  | _ => (evBuildSlice P ts t len parts.toList).map fun (b, C) => (.row base, [b], C)
 | .load t p =>
  match ev ts p with
  | some p => v2 (evLoad P mem t p)
  | none => none
 | .nilCheck x =>
  match ev ts x with
  | some (.ptr b p) => some (.ptr b p, [], True)
  | some (.pv c) => some (.pv c, [], True)
  | some (.fn f c) => some (.fn f c, [], True)
  | _ => none
 | .binOp op t x y _ =>
  match ev ts x, ev ts y with
  | some a, some b => v2 (evBinX P op t a b)
  | _, _ => none
 | .unOp op _ x =>
  match ev ts x with
  | some a => v1 (evUn op a)
  | none => none
 | .convert s d x =>
  match ev ts x with
  | some a => v1 (evConvX P mem s d a)
  | none => none
 | .makeFunc (.func f) first caps => if first.size = 0 then v1 ((capsAV ts caps.toList).map (.fn f ·)) else none
 | .slice t x lo hi mx =>
  match ev ts x, oev ts lo, oev ts hi, oev ts mx with
  | some a, some l, some h, some m => v2 (evSlice P t a l h m)
  | _, _, _, _ => none
 | .fieldAddr s x f =>
  match ev ts x with
  | some a => v1 (evFieldAddr P s a f)
  | none => none
 | .field s x f =>
  match ev ts x with
  | some a => v1 (evField P s a f)
  | none => none
 | .indexAddr t x i =>
  match ev ts x, ev ts i with
  | some a, some b => v2 (evIndexAddr P mem t a b)
  | _, _ => none
 | .index t x i =>
  match ev ts x, ev ts i with
  | some a, some b => v2 (evIndex P t a b)
  | _, _ => none
 | .extract x i =>
  match ev ts x with
  | some a => v1 (evExtract a i)
  | none => none
 | .makeSlice t l c =>
  match h with
  | .sel => none
  | _ => (evMake P ts t l c).map fun (b, C) => (.row base, [b], C)
 | .call c =>
  match c.callee with
  | .builtin .len =>
   match c.args.toList, c.argTypes.toList with
   | [x], [t] =>
    match ev ts x with
    | some a => v1 (evLen P mem t a)
    | none => none
   | _, _ => none
  | .builtin .min =>
   match c.args.toList with
   | [x, y] =>
    match ev ts x, ev ts y with
    | some a, some b => v1 (minI a b)
    | _, _ => none
   | _ => none
  | .builtin .max =>
   match c.args.toList with
   | [x, y] =>
    match ev ts x, ev ts y with
    | some a, some b => v1 (maxI a b)
    | _, _ => none
   | _ => none
  | .value f =>
   match h with
   | .call res new => evCall P ts mem base f c.args.toList res new
   | .same => evSame P ts f c.args.toList
   | _ => none
  | _ => none
 | _ => none
theorem v1_ok {r : Option AV} {av : AV} {new : List Blk} {C : Prop} (h : v1 r = some (av, new, C)) : r = some av ∧ new = [] ∧ C = True := by
 simp only [v1, Option.map_eq_some_iff, Prod.mk.injEq] at h
 obtain ⟨x, hx, rfl, rfl, rfl⟩ := h
 exact ⟨hx, rfl, rfl⟩
theorem v2_ok {r : Option (AV × Prop)} {av : AV} {new : List Blk} {C : Prop} (h : v2 r = some (av, new, C)) : r = some (av, C) ∧ new = [] := by
 simp only [v2, Option.map_eq_some_iff, Prod.mk.injEq, Prod.exists] at h
 obtain ⟨x, D, hx, rfl, rfl, rfl⟩ := h
 exact ⟨hx, rfl⟩
theorem arr1 {α : Type} {a : Array α} {x : α} (h : a.toList = [x]) : a = #[x] := by apply Array.ext'; simpa using h
theorem arr2 {α : Type} {a : Array α} {x y : α} (h : a.toList = [x, y]) : a = #[x, y] := by apply Array.ext'; simpa using h
theorem evPure_ok {P : Program} {o : Oper} {ts : List AV} {mem : List Blk} {base : Nat} {h : Hint} {av : AV} {new : List Blk} {C : Prop} (he : evPure P ts mem base o h = some (av, new, C)) : PureOp P o ts mem base av new C := by
 unfold evPure at he
 split at he
 case h_1 x ho =>
  obtain ⟨h1, rfl, rfl⟩ := v1_ok he
  exact pure_val fun B w G a _ hm ht => ⟨_, by simp only [execOp, ho]; rfl, ev_ok ht h1⟩
 case h_2 x ho =>
  obtain ⟨h1, rfl, rfl⟩ := v1_ok he
  exact pure_val fun B w G a _ hm ht => ⟨_, by simp only [execOp, ho]; rfl, ev_ok ht h1⟩
 case h_3 c x y ho =>
  have fin : ∀ (t : Bool) (a : Act) (w : World), a.eval c = .bool t → (execOp a.eval o).run P w = .ok (.value (if t then a.eval x else a.eval y)) w := by
   intro t a w hc
   simp only [execOp, ho, hc, asBool, Sem.run_bind, Sem.run_pure, Result.andThen_ok]
  split at he
  ·split at he
   ·rename_i t u v hc hx hy
    obtain ⟨h1, rfl, rfl⟩ := v1_ok he
    exact pure_val fun B w G a _ hm ht => ⟨_, fin t a w (val_bool (ev_ok ht hc)), selAV_ok h1 (ev_ok ht hx) (ev_ok ht hy)⟩
   ·cases he
  ·split at he
   ·rename_i hc
    obtain ⟨h1, rfl, rfl⟩ := v1_ok he
    exact pure_val fun B w G a _ hm ht => ⟨_, fin true a w (val_bool (ev_ok ht hc)), ev_ok ht h1⟩
   ·rename_i hc
    obtain ⟨h1, rfl, rfl⟩ := v1_ok he
    exact pure_val fun B w G a _ hm ht => ⟨_, fin false a w (val_bool (ev_ok ht hc)), ev_ok ht h1⟩
   ·cases he
 case h_4 t ho =>
  simp only [Option.map_eq_some_iff, Prod.mk.injEq] at he
  obtain ⟨c, hc, rfl, rfl, rfl⟩ := he
  exact evAlloc_ok ho hc
 case h_5 t x ho =>
  simp only [Option.map_eq_some_iff, Prod.mk.injEq] at he
  obtain ⟨c, hc, rfl, rfl, rfl⟩ := he
  exact evBox_ok ho hc
 case h_6 t parts ho =>
  obtain ⟨h1, rfl⟩ := v2_ok he
  refine pure_val fun B w G a hC hm ht => ?_
  obtain ⟨v, hr, hv⟩ := evBuild_ok h1 hC ht
  exact ⟨v, by simp only [execOp, ho, Sem.run_bind, hr, Result.andThen_ok, Sem.run_pure], hv⟩
 case h_7 t len parts ho =>
  split at he
  ·simp only [Option.map_eq_some_iff, Prod.mk.injEq, Prod.exists] at he
   obtain ⟨b, D, hb, rfl, rfl, rfl⟩ := he
   exact bldFx_ok hb
  ·simp only [Option.map_eq_some_iff, Prod.mk.injEq, Prod.exists] at he
   obtain ⟨b, D, hb, rfl, rfl, rfl⟩ := he
   exact evBuildSlice_ok ho hb
 case h_8 t p ho =>
  split at he
  ·rename_i q hq
   obtain ⟨h1, rfl⟩ := v2_ok he
   refine pure_val fun B w G a hC hm ht => ?_
   obtain ⟨v, hr, hv⟩ := evLoad_ok h1 hC hm (ev_ok ht hq)
   exact ⟨v, by simp only [execOp, ho, Sem.run_bind, hr, Result.andThen_ok, Sem.run_pure], hv⟩
  ·cases he
 case h_9 x ho =>
  split at he
  ·rename_i b p hx
   simp only [Option.some.injEq, Prod.mk.injEq] at he
   obtain ⟨rfl, rfl, rfl⟩ := he
   refine pure_val fun B w G a _ hm ht => ⟨a.eval x, ?_, ev_ok ht hx⟩
   rw [val_ptr (ev_ok ht hx)]
   simp only [execOp, ho]
   rw [val_ptr (ev_ok ht hx)]
   rfl
  ·rename_i c hx
   simp only [Option.some.injEq, Prod.mk.injEq] at he
   obtain ⟨rfl, rfl, rfl⟩ := he
   refine pure_val fun B w G a _ hm ht => ⟨a.eval x, ?_, ev_ok ht hx⟩
   obtain ⟨b, off, cells, hv, _⟩ := val_pv (ev_ok ht hx)
   rw [hv]
   simp only [execOp, ho]
   rw [hv]
   rfl
  ·rename_i f c hx
   simp only [Option.some.injEq, Prod.mk.injEq] at he
   obtain ⟨rfl, rfl, rfl⟩ := he
   refine pure_val fun B w G a _ hm ht => ⟨a.eval x, ?_, ev_ok ht hx⟩
   obtain ⟨vs, e1, _⟩ := (show ∃ vs : List Value, [a.eval x] = [Value.func (.func f) #[] vs.toArray] ∧ _ from ev_ok ht hx)
   have e2 : a.eval x = Value.func (.func f) #[] vs.toArray := by simpa using e1
   rw [e2]
   simp only [execOp, ho]
   rw [e2]
   rfl
  ·cases he
 case h_10 op t x y ty ho =>
  split at he
  ·rename_i u v hu hv
   obtain ⟨h1, rfl⟩ := v2_ok he
   refine pure_val fun B w G a hC hm ht => ?_
   obtain ⟨r, hr, hv⟩ := evBinX_ok (P := P) x y h1 hC (ev_ok ht hu) (ev_ok ht hv)
   refine ⟨r, ?_, hv⟩
   simp only [execOp, ho]
   rw [Sem.run_bind, hr]
   rfl
  ·cases he
 case h_11 op t x ho =>
  split at he
  ·rename_i u hu
   obtain ⟨h1, rfl, rfl⟩ := v1_ok he
   refine pure_val fun B w G a _ hm ht => ?_
   obtain ⟨r, hr, hv⟩ := evUn_ok (P := P) h1 (ev_ok ht hu)
   exact ⟨r, by simp only [execOp, ho, Sem.run_bind, hr, Result.andThen_ok, Sem.run_pure], hv⟩
  ·cases he
 case h_12 s d x ho =>
  split at he
  ·rename_i u hu
   obtain ⟨h1, rfl, rfl⟩ := v1_ok he
   refine pure_val fun B w G a _ hm ht => ?_
   obtain ⟨r, hr, hv⟩ := evConvX_ok (P := P) hm h1 (ev_ok ht hu)
   exact ⟨r, by simp only [execOp, ho, Sem.run_bind, hr, Result.andThen_ok, Sem.run_pure], hv⟩
  ·cases he
 case h_13 f first caps ho =>
  split at he
  ·rename_i hz
   obtain ⟨h1, rfl, rfl⟩ := v1_ok he
   simp only [Option.map_eq_some_iff] at h1
   obtain ⟨c, hc, rfl⟩ := h1
   refine pure_val fun B w G a _ hm ht => ⟨.func (.func f) #[] (caps.toList.map a.eval).toArray, ?_, caps.toList.map a.eval, rfl, caps_ok ht _ _ hc⟩
   have e1 : first = #[] := Array.eq_empty_of_size_eq_zero hz
   have e2 : caps.map a.eval = (caps.toList.map a.eval).toArray := by apply Array.ext'; simp
   simp only [execOp, ho, Instr.makeFunc, e1, e2, Sem.run_bind, Sem.run_pure, Result.andThen_ok]
   simp
  ·cases he
 case h_14 t x lo hi mx ho =>
  split at he
  ·rename_i u l h m hu hl hh hmx
   obtain ⟨h1, rfl⟩ := v2_ok he
   refine pure_val fun B w G a hC hm ht => ?_
   obtain ⟨r, hr, hv⟩ := evSlice_ok (P := P) h1 hC (ev_ok ht hu) (oev_ok ht hl) (oev_ok ht hh) (oev_ok ht hmx)
   exact ⟨r, by simp only [execOp, ho, Sem.run_bind, hr, Result.andThen_ok, Sem.run_pure], hv⟩
  ·cases he
 case h_15 s x f ho =>
  split at he
  ·rename_i u hu
   obtain ⟨h1, rfl, rfl⟩ := v1_ok he
   refine pure_val fun B w G a _ hm ht => ?_
   obtain ⟨r, hr, hv⟩ := evFieldAddr_ok (P := P) h1 (ev_ok ht hu)
   exact ⟨r, by simp only [execOp, ho, Sem.run_bind, hr, Result.andThen_ok, Sem.run_pure], hv⟩
  ·cases he
 case h_16 s x f ho =>
  split at he
  ·rename_i u hu
   obtain ⟨h1, rfl, rfl⟩ := v1_ok he
   refine pure_val fun B w G a _ hm ht => ?_
   obtain ⟨r, hr, hv⟩ := evField_ok (P := P) h1 (ev_ok ht hu)
   exact ⟨r, by simp only [execOp, ho, Sem.run_bind, hr, Result.andThen_ok, Sem.run_pure], hv⟩
  ·cases he
 case h_17 t x i ho =>
  split at he
  ·rename_i u v hu hv
   obtain ⟨h1, rfl⟩ := v2_ok he
   refine pure_val fun B w G a hC hm ht => ?_
   obtain ⟨r, hr, hv⟩ := evIndexAddr_ok (P := P) h1 hC hm (ev_ok ht hu) (ev_ok ht hv)
   exact ⟨r, by simp only [execOp, ho, Sem.run_bind, hr, Result.andThen_ok, Sem.run_pure], hv⟩
  ·cases he
 case h_18 t x i ho =>
  split at he
  ·rename_i u v hu hv
   obtain ⟨h1, rfl⟩ := v2_ok he
   refine pure_val fun B w G a hC hm ht => ?_
   obtain ⟨r, hr, hv⟩ := evIndex_ok (P := P) h1 hC (ev_ok ht hu) (ev_ok ht hv)
   exact ⟨r, by simp only [execOp, ho, Sem.run_bind, hr, Result.andThen_ok, Sem.run_pure], hv⟩
  ·cases he
 case h_19 x i ho =>
  split at he
  ·rename_i u hu
   obtain ⟨h1, rfl, rfl⟩ := v1_ok he
   refine pure_val fun B w G a _ hm ht => ?_
   obtain ⟨r, hr, hv⟩ := evExtract_ok (P := P) h1 (ev_ok ht hu)
   exact ⟨r, by simp only [execOp, ho, Sem.run_bind, hr, Result.andThen_ok, Sem.run_pure], hv⟩
  ·cases he
 case h_20 t l c ho =>
  split at he
  ·cases he
  ·simp only [Option.map_eq_some_iff, Prod.mk.injEq, Prod.exists] at he
   obtain ⟨b, D, hb, rfl, rfl, rfl⟩ := he
   exact evMake_ok ho hb
 case h_21 c ho =>
  obtain ⟨callee, args, tys⟩ := c
  simp only at he
  split at he
  ·split at he
   ·rename_i x t hargs htys
    have e1 := arr1 hargs
    have e2 := arr1 htys
    split at he
    ·rename_i u hu
     obtain ⟨h1, rfl, rfl⟩ := v1_ok he
     refine pure_val fun B w G a _ hm ht => ?_
     obtain ⟨r, hr, hv⟩ := evLen_ok (P := P) (ty := o.type) h1 hm (ev_ok ht hu)
     refine ⟨r, ?_, hv⟩
     simp only [execOp, ho, resolve, Sem.run_bind, Sem.run_pure, Result.andThen_ok, invoke, builtin, e1, e2, List.map_toArray, List.map_cons, List.map_nil, hr]
    ·cases he
   ·cases he
  ·split at he
   ·rename_i x y hargs
    have e1 := arr2 hargs
    split at he
    ·rename_i u v hu hv
     obtain ⟨h1, rfl, rfl⟩ := v1_ok he
     refine pure_val fun B w G a _ hm ht => ?_
     unfold minI at h1
     split at h1
     ·rename_i k p k' q
      split at h1
      ·rename_i hk
       subst hk
       simp only [Option.some.injEq] at h1
       subst h1
       have a1 := val_int (ev_ok ht hu)
       have a2 := val_int (ev_ok ht hv)
       refine ⟨.int k (if q < p then q else p), ?_, rfl⟩
       simp only [execOp, ho, resolve, Sem.run_bind, Sem.run_pure, Result.andThen_ok, invoke, builtin, e1, List.map_toArray, List.map_cons, List.map_nil, a1, a2, Builtin.min_, List.foldlM, Builtin.min2]
      ·cases h1
     ·cases h1
    ·cases he
   ·cases he
  ·split at he
   ·rename_i x y hargs
    have e1 := arr2 hargs
    split at he
    ·rename_i u v hu hv
     obtain ⟨h1, rfl, rfl⟩ := v1_ok he
     refine pure_val fun B w G a _ hm ht => ?_
     unfold maxI at h1
     split at h1
     ·rename_i k p k' q
      split at h1
      ·rename_i hk
       subst hk
       simp only [Option.some.injEq] at h1
       subst h1
       have a1 := val_int (ev_ok ht hu)
       have a2 := val_int (ev_ok ht hv)
       refine ⟨.int k (if q > p then q else p), ?_, rfl⟩
       simp only [execOp, ho, resolve, Sem.run_bind, Sem.run_pure, Result.andThen_ok, invoke, builtin, e1, List.map_toArray, List.map_cons, List.map_nil, a1, a2, Builtin.max_, List.foldlM, Builtin.max2]
      ·cases h1
     ·cases h1
    ·cases he
   ·cases he
  ·split at he
   ·exact evCall_ok ho he
   ·exact evSame_ok ho he
   ·cases he
  ·cases he
 case h_22 => cases he
def decH (h : Hint) (av : AV) (new : List Blk) (C : Prop) : Option (AV × List Blk × Prop) :=
 match h, av with
 | .dec b, .bool c => some (.bool b, new, C ∧ c = b)
 | .dec _, _ => none
 | _, _ => some (av, new, C)
def evDec (P : Program) (ts : List AV) (mem : List Blk) (base : Nat) (o : Oper) (h : Hint) : Option (AV × List Blk × Prop) :=
 match evPure P ts mem base o h with
 | some (av, new, C) => decH h av new C
 | none =>
  match evMore P ts mem base o with
  | some (av, new, C) => decH h av new C
  | none => none
theorem decH_ok {P : Program} {o : Oper} {ts : List AV} {mem : List Blk} {base : Nat} {h : Hint} {av av' : AV} {new new' : List Blk} {C C' : Prop} (hok : PureOp P o ts mem base av' new' C') (he : decH h av' new' C' = some (av, new, C)) : PureOp P o ts mem base av new C := by
 unfold decH at he
 split at he
 ·simp only [Option.some.injEq, Prod.mk.injEq] at he
  obtain ⟨rfl, rfl, rfl⟩ := he
  intro B w G a hC hm ht h1 h2 next Q hn
  obtain ⟨hC, rfl⟩ := hC
  exact hok B w G a hC hm ht h1 h2 next Q hn
 ·cases he
 ·simp only [Option.some.injEq, Prod.mk.injEq] at he
  obtain ⟨rfl, rfl, rfl⟩ := he
  exact hok
theorem evDec_ok {P : Program} {o : Oper} {ts : List AV} {mem : List Blk} {base : Nat} {h : Hint} {av : AV} {new : List Blk} {C : Prop} (he : evDec P ts mem base o h = some (av, new, C)) : PureOp P o ts mem base av new C := by
 unfold evDec at he
 split at he
 ·rename_i av' new' C' hp
  exact decH_ok (evPure_ok hp) he
 ·split at he
  ·rename_i av' new' C' hp
   exact decH_ok (evMore_ok hp) he
  ·cases he
def Fz (B : Nat) (w w' : World) (G G' : Gh) : Prop := (∀ b, G.fz b → G'.fz b) ∧ (∀ b, G'.fz b → G.fz b ∨ B ≤ b) ∧ ∀ b, G.fz b → b < w.heap.size → w'.heap[b]? = w.heap[b]?
theorem Fz.refl (B : Nat) {w w' : World} (G : Gh) (hk : Keeps G.fz G.fz w w') : Fz B w w' G G := ⟨fun _ h => h, fun _ h => .inl h, hk.block⟩
def EffOp (P : Program) (o : Oper) (ts : List AV) (mem : List Blk) (ts' : List AV) (mem' : List Blk) (C : Prop) : Prop :=
 ∀ (B : Nat) (w : World) (G : Gh) (a : Act), C → MemR B w G mem → TmpsR w G ts a → (∀ t r, r ∈ (ts.getD t .unk).refs → r < mem.length) → (∀ i r, r ∈ (lk mem i).refs → r < mem.length) →
  ∀ (next : Act → World → Prop) (Q : Exit → Act → World → Prop), (∀ a' w' G', Below B w w' → Fz B w w' G G' → MemR B w' G' mem' → TmpsR w' G' ts' a' → a'.defers = a.defers → next a' w') → o.wp P a w next Q
theorem put_defers (a : Act) (d : Option Tmp) (v : Value) : (a.put d v).defers = a.defers := by cases d <;> rfl
theorem lk_big {mem : List Blk} {i : Nat} (h : mem.length ≤ i) : lk mem i = .dead := by
 simp only [lk, List.getD_eq_getElem?_getD, List.getElem?_eq_none h, Option.getD_none]
theorem PureOp.eff {P : Program} {o : Oper} {ts : List AV} {mem : List Blk} {av : AV} {new : List Blk} {C : Prop} (h : PureOp P o ts mem mem.length av new C) : EffOp P o ts mem (tput ts o.dst av) (memPut mem mem.length new) C := by
 intro B w G a hC hm ht hrt hrm next Q hn
 refine h B w G a hC hm ht hrt hrm next Q fun v w' G' hN hv => ?_
 refine hn _ w' G' (hN.below.mono hm.base.1) ⟨hN.fz1, fun b hb => (hN.fz2 b hb).imp id (fun h => Nat.le_trans hm.base.1 h.1), hN.keeps.block⟩ (hm.more hN (fun i hi _ => lk_big hi) (fun i r hr => .inl (hrm i r hr))) ?_ (put_defers _ _ _)
 exact (ht.keep hN.keeps (fun t r hr => hN.agree r (.inl (hrt t r hr)))).put _ hv
theorem lk_set (mem : List Blk) (b i : Nat) (x : Blk) : lk (mem.set b x) i = if i = b ∧ b < mem.length then x else lk mem i := by
 simp only [lk, List.getD_eq_getElem?_getD, List.getElem?_set]
 by_cases h : b = i
 ·subst h
  by_cases hlt : b < mem.length
  ·simp [hlt]
  ·simp [hlt]
 ·have h' : ¬ i = b := fun e => h e.symm
  simp [h, h']
theorem lk_lt {mem : List Blk} {i : Nat} (h : lk mem i ≠ .dead) : i < mem.length := by
 rcases Nat.lt_or_ge i mem.length with h1 | h1
 ·exact h1
 ·exact absurd (lk_big h1) h
theorem MemR.write {B : Nat} {w w' : World} {G : Gh} {mem : List Blk} {b g : Nat} {x : Blk} (hm : MemR B w G mem) (hl : (lk mem b).live G b = some g) (hs : w'.heap.size = w.heap.size) (ho : ∀ k, k ≠ g → w'.heap[k]? = w.heap[k]?)
  (hx : BlkR B w' G b x) (hxl : x.live G b = some g) : MemR B w' G (mem.set b x) ∧ Keeps G.fz G.fz w w' := by
 have hg := hm.own b g hl
 have hk : Keeps G.fz G.fz w w' := ⟨by omega, fun k hf _ => ho k (fun e => hg.2.2 (e ▸ hf)), fun _ h => h⟩
 have hlv : ∀ i, (lk (mem.set b x) i).live G i = (lk mem i).live G i := by
  intro i
  rw [lk_set]
  split
  ·rename_i h; obtain ⟨rfl, _⟩ := h; rw [hl, hxl]
  ·rfl
 refine ⟨⟨fun i => ?_, fun i j y hij hi hj => ?_, fun i y hi => ?_, fun k hf => by rw [hs]; exact hm.fz k hf, hm.base.keep (by omega) (fun k h0 => ho k (by omega))⟩, hk⟩
 ·rw [lk_set]
  split
  ·rename_i h; obtain ⟨rfl, _⟩ := h; exact hx
  ·rename_i h
   by_cases hb : i = b
   ·subst hb
    have : lk mem i = .dead := lk_big (by omega)
    rw [this] at hl; cases hl
   ·refine (hm.blk i).keep hk ⟨rfl, rfl⟩ (fun _ _ => ⟨rfl, rfl⟩) (Nat.le_refl _) (fun y hy => ho y (fun e => ?_))
    subst e
    exact hm.apart i b y hb hy hl
 ·rw [hlv] at hi hj
  exact hm.apart i j y hij hi hj
 ·rw [hlv] at hi
  rw [hs]
  exact hm.own i y hi
theorem run_storeCells_fr (P : Program) (g o : Nat) (t : TypeId) (fr : Nat × Nat) : ∀ (vs : List Value) (i : Nat) (cur : Array Value) (w : World), w.heap[g]? = some (.cells cur t fr) → o + i + vs.length ≤ cur.size → (fr = (0, 0) ∨ cur.size ≤ fr.1) → (∀ v ∈ vs, v.oneCell' = true) →
  (storeCells ⟨g, o, none⟩ vs i).run P w = .ok () (w.setRow g (cur.toList.take (o + i) ++ vs ++ cur.toList.drop (o + i + vs.length)).toArray)
 | [], i, cur, w, hg, _, _, _ => by
  simp only [storeCells, List.append_nil, List.length_nil, Nat.add_zero, List.take_append_drop, Array.toArray_toList]
  rw [setRow_self w g cur t fr hg]
  rfl
 | v :: rest, i, cur, w, hg, hl, hfr, h1 => by
  have hi : o + i < cur.size := by simp at hl; omega
  have hadd : (⟨g, o, none⟩ : Addr).add i = ⟨g, o + i, none⟩ := by unfold Addr.add; split <;> simp_all
  have hcell : w.cell? ⟨g, o + i, none⟩ = some cur[o + i] := by simp [World.cell?, hg, hi]
  have hfro : w.frozen? ⟨g, o + i, none⟩ = false := by
   simp only [World.frozen?, hg]
   rcases hfr with rfl | h
   ·simp
   ·simp; omega
  have hst : (store ((⟨g, o, none⟩ : Addr).add i) v).run P w = .ok () (w.setRow g (cur.setIfInBounds (o + i) v)) := by
   rw [hadd, run_store P w _ v _ (h1 v (by simp)), hcell]
   simp [hfro, setCell_eq_setRow w g (o + i) cur t fr v hg]
  have ih := run_storeCells_fr P g o t fr rest (i + 1) (cur.setIfInBounds (o + i) v) (w.setRow g (cur.setIfInBounds (o + i) v)) (setRow_heap w g cur _ t _ hg) (by simp at hl ⊢; omega) (hfr.imp id fun h => by simpa using h) (fun x hx => h1 x (by simp [hx]))
  simp only [storeCells, Sem.run_bind, hst, Result.andThen_ok, ih, setRow_setRow]
  congr 3
  have e := list_seg_step cur.toList (o + i) v rest (by simp at hl ⊢; omega)
  simpa [Array.toList_setIfInBounds, Nat.add_assoc] using e
theorem run_storeOwn {P : Program} {w : World} {g : Nat} {t : TypeId} {c1 c2 c3 rest vs : List Value} (h : OwnAt w g t (c1 ++ c2 ++ c3) rest) (hl : vs.length = c2.length) (h1 : ∀ v ∈ vs, v.oneCell' = true) :
  ∃ w', (storeCells ⟨g, c1.length, none⟩ vs).run P w = .ok () w' ∧ w'.heap.size = w.heap.size ∧ (∀ k, k ≠ g → w'.heap[k]? = w.heap[k]?) ∧ OwnAt w' g t (c1 ++ vs ++ c3) rest ∧ Below g w w' := by
 obtain ⟨fr, h, hfr⟩ := h
 have hrun := run_storeCells_fr P g c1.length t fr vs 0 (c1 ++ c2 ++ c3 ++ rest).toArray w h (by simp; omega) (hfr.imp id fun h => by simpa using h.2) h1
 refine ⟨_, hrun, by simp, fun k hk => setRow_other _ _ _ _ hk, ⟨fr, ?_, hfr.imp id fun h => ⟨h.1, by have h := h.2; simp only [List.length_append] at h ⊢; omega⟩⟩, ?_⟩
 ·rw [setRow_heap w g _ _ t fr h]
  congr 2
  simp only [List.append_assoc, Nat.add_zero]
  rw [List.take_left, hl]
  have e : (c1 ++ (c2 ++ (c3 ++ rest))).drop (c1.length + c2.length) = c3 ++ rest := by
   rw [← List.append_assoc, show c1.length + c2.length = (c1 ++ c2).length by simp, List.drop_left]
  rw [e]
 ·exact ⟨rfl, rfl, rfl, by simp, fun k hk => setRow_other _ _ _ _ (by omega)⟩
def evStore (P : Program) (ts : List AV) (mem : List Blk) (t : TypeId) (p x : Operand) : Option (List Blk × Prop) :=
 match ev ts p, ev ts x with
 | some (.ptr b q), some v =>
  if (v.flat || v.agg) = true ∧ (P.info? t).map (·.size) = some v.size then
   match lk mem b with
   | .box T c =>
    match AV.set q v c with
    | some (c', C) => some (mem.set b (.box T c'), C)
    | none => none
   | .row T e l =>
    match AV.set q v (.arr l.length e l) with
    | some (.arr n e' l', C) => if e'.size = e.size ∧ 0 < v.size then some (mem.set b (.row T e' l'), C ∧ n = l.length) else none
    | _ => none
   | .rowl T e l (some (z, c)) =>
    match q with
    | .lst o :: q' =>
     match AV.set q' v c with
     | some (c', C) => some (mem.set b (.rowl T e l (some (z, c'))), (z = true ∧ o = l.length * e.size) ∧ C)
     | none => none
    | _ => none
   | _ => none
  else none
 | _, _ => none
theorem evStore_ok1 {P : Program} {o : Oper} {ts : List AV} {mem mem' : List Blk} {t : TypeId} {p x : Operand} {C : Prop} (ho : o.op = .store t p x) (h : evStore P ts mem t p x = some (mem', C))
  (B : Nat) (w : World) (G : Gh) (a : Act) (hC : C) (hm : MemR B w G mem) (ht : TmpsR w G ts a) (next : Act → World → Prop) (Q : Exit → Act → World → Prop)
  (hn : ∀ w', Below B w w' → Keeps G.fz G.fz w w' → MemR B w' G mem' → next (a.put o.dst undef) w') : o.wp P a w next Q := by
 unfold evStore at h
 split at h
 ·rename_i b q v hp hx
  split at h
  ·rename_i hcond
   obtain ⟨hf, hinf⟩ := hcond
   simp only [Option.map_eq_some_iff] at hinf
   obtain ⟨inf, hinf, hz⟩ := hinf
   have hv : CellsR w G v (a.eval x).cells.toList := ValR0.cells ((ev_ok ht hx).to0 (flagg_tup hf)) hf
   have hvl := CellsR.length v _ hv
   have h1 := CellsR.one v _ hv
   have hpv := val_ptr (ev_ok ht hp)
   have hrun : ∀ (g : Nat) (T : TypeId) (c1 c2 c3 rest : List Value), (⟨(G.addr b).block, (G.addr b).off + offs q, none⟩ : Addr) = ⟨g, c1.length, none⟩ → OwnAt w g T (c1 ++ c2 ++ c3) rest → c2.length = v.size →
     (∀ w', w'.heap.size = w.heap.size → (∀ k, k ≠ g → w'.heap[k]? = w.heap[k]?) → OwnAt w' g T (c1 ++ (a.eval x).cells.toList ++ c3) rest → Below g w w' → next (a.put o.dst undef) w') → o.wp P a w next Q := by
    intro g T c1 c2 c3 rest ha hat hc2 hfin
    obtain ⟨w', hr, hs, hoth, hat', hbel⟩ := run_storeOwn (P := P) hat (by rw [hvl, hc2]) h1
    have hsz : ¬ (a.eval x).cells.size ≠ inf.size := by
     rw [hz]
     simp only [Array.length_toList] at hvl
     simp [hvl]
    unfold Oper.wp
    have e : (execOp a.eval o).run P w = .ok .skip w' := by
     simp only [execOp, ho, Instr.storeAt, hpv, Instr.sureAddr, storeVar, Sem.run_bind, Sem.run_pure, Result.andThen_ok, run_sz hinf]
     rw [if_neg hsz, ha, hr]
     rfl
    rw [e]
    exact hfin w' hs hoth hat' hbel
   split at h
   ·rename_i T c hlk
    split at h
    ·rename_i c' D hset
     simp only [Option.some.injEq, Prod.mk.injEq] at h
     obtain ⟨rfl, rfl⟩ := h
     have hb := hm.blk b
     rw [hlk] at hb
     obtain ⟨h0, cs, hat, hcs⟩ := hb
     obtain ⟨c1, c2, c3, rfl, hl1, hl2, hset2⟩ := AV.set_ok q v c c' D cs hset hC hcs
     refine hrun (G.addr b).block T c1 c2 c3 [] (by rw [h0, Nat.zero_add, hl1]) hat hl2 fun w' hs hoth hat' hbel => ?_
     have hlive : (lk mem b).live G b = some (G.addr b).block := by rw [hlk]; rfl
     have hg := hm.own b _ hlive
     have hk0 : Keeps G.fz G.fz w w' := ⟨by omega, fun k hf' _ => hoth k (fun e => hg.2.2 (e ▸ hf')), fun _ h => h⟩
     obtain ⟨hm', hk⟩ := hm.write (x := .box T c') hlive hs hoth ⟨h0, _, hat', CellsR.keep hk0 c' _ (fun _ _ => ⟨rfl, rfl⟩) (hset2 _ hv)⟩ rfl
     exact hn w' (hbel.mono hg.1) hk hm'
    ·cases h
   ·rename_i T e l hlk
    split at h
    ·rename_i n e' l' D hset
     split at h
     ·rename_i he
      obtain ⟨he, hv0⟩ := he
      simp only [Option.some.injEq, Prod.mk.injEq] at h
      obtain ⟨rfl, rfl⟩ := h
      obtain ⟨hD, hnl⟩ := hC
      have hb := hm.blk b
      rw [hlk] at hb
      obtain ⟨h0, cs, hrow, hcat⟩ := hb
      rcases hrow with ⟨hn0, rfl, _⟩ | ⟨g, cap, rest, hval, hcap, hB, hat, hnc, hcm, hcl, hcr⟩
      ·exfalso
       obtain ⟨c1, c2, c3, e1, hl1, hl2, hset2⟩ := AV.set_ok q v _ _ D [] hset hD (⟨rfl, hcat⟩ : CellsR w G (.arr l.length e l) [])
       have := congrArg List.length e1
       simp only [List.length_nil, List.length_append] at this
       omega
      ·have hga := h0 g (by rw [hval]; cases cap with | zero => omega | succ n => rfl)
       obtain ⟨c1, c2, c3, rfl, hl1, hl2, hset2⟩ := AV.set_ok q v _ _ D cs hset hD (⟨rfl, hcat⟩ : CellsR w G (.arr l.length e l) cs)
       refine hrun g T c1 c2 c3 rest (by rw [hga, Nat.zero_add, hl1]) hat hl2 fun w' hs hoth hat' hbel => ?_
       have hlive : (lk mem b).live G b = some g := by
        rw [hlk, Blk.live, hval]
        cases cap with | zero => omega | succ n => rfl
       have hg := hm.own b _ hlive
       have hk0 : Keeps G.fz G.fz w w' := ⟨by omega, fun k hf' _ => hoth k (fun e => hg.2.2 (e ▸ hf')), fun _ h => h⟩
       obtain ⟨hl', hcat'⟩ := hset2 _ hv
       have hlen : (c1 ++ (a.eval x).cells.toList ++ c3).length = (c1 ++ c2 ++ c3).length := by
        simp only [List.length_append]
        omega
       have hll : l'.length = l.length := by rw [hl', hnl]
       obtain ⟨hm', hk⟩ := hm.write (x := .row T e' l') hlive hs hoth ⟨h0, _, .inr ⟨g, cap, rest, by rw [hval, hll], hcap, hB, hat', by omega, hcm, by rw [hlen, hcl, hll, he], by
        rw [List.length_append, hlen, ← List.length_append, hcr, he]⟩, CatR.mono (fun y c hy => ShR.keep hk0 e' y c hy) _ _ hcat'⟩ (by
         rw [Blk.live, hval]
         cases cap with | zero => omega | succ n => rfl)
       exact hn w' (hbel.mono hg.1) hk hm'
     ·cases h
    ·cases h
   ·rename_i T e l z c hlk
    split at h
    ·rename_i o q'
     split at h
     ·rename_i c' D hset
      simp only [Option.some.injEq, Prod.mk.injEq] at h
      obtain ⟨rfl, rfl⟩ := h
      obtain ⟨⟨hz1, ho1⟩, hD⟩ := hC
      have hb := hm.blk b
      rw [hlk] at hb
      obtain ⟨h0, d1, d2, hrow, hcat, hx⟩ := hb
      have hd1 := CatR.length (fun y c hy => ShR.length e y c hy) _ _ hcat
      have hN : lstN (some (z, c)) = 1 := by rw [hz1]; rfl
      rw [hN] at hrow
      rcases hrow with ⟨hn0, _, _⟩ | ⟨g, pre, cap, rest, hval, hcap, hB, hat, hnc, hcm, hcl, hcr⟩
      ·omega
      ·have hga := h0 g _ _ cap hval hcap
       obtain ⟨c1, c2, c3, rfl, hl1, hl2, hset2⟩ := AV.set_ok q' v c c' D d2 hset hD (hx.1 hz1)
       refine hrun g T (pre ++ d1 ++ c1) c2 c3 rest (by
        have e1 : (pre ++ d1 ++ c1).length = pre.length + offs (.lst o :: q') := by simp only [List.length_append, offs, hd1, hl1, ho1]; omega
        rw [hga, e1]) (by simpa [List.append_assoc] using hat) hl2 fun w' hs hoth hat' hbel => ?_
       have hlive : (lk mem b).live G b = some g := by
        rw [hlk, Blk.live, hval]
        cases cap with | zero => omega | succ n => rfl
       have hg := hm.own b g hlive
       have hk0 : Keeps G.fz G.fz w w' := ⟨by omega, fun k hf' _ => hoth k (fun e => hg.2.2 (e ▸ hf')), fun _ h => h⟩
       have hlen : (c1 ++ (a.eval x).cells.toList ++ c3).length = (c1 ++ c2 ++ c3).length := by
        simp only [List.length_append]
        omega
       obtain ⟨hm', hk⟩ := hm.write (x := .rowl T e l (some (z, c'))) hlive hs hoth ⟨h0, d1, c1 ++ (a.eval x).cells.toList ++ c3, (by
        have hN' : lstN (some (z, c')) = 1 := by rw [hz1]; rfl
        rw [hN']
        refine .inr ⟨g, pre, cap, rest, hval, hcap, hB, by simpa [List.append_assoc] using hat', hnc, hcm, ?_, ?_⟩
        ·rw [List.length_append, hlen, ← List.length_append]; exact hcl
        ·rw [List.length_append, List.length_append, hlen, ← List.length_append, ← List.length_append]; exact hcr), CatR.mono (fun y c hy => ShR.keep hk0 e y c hy) _ _ hcat, fun _ => CellsR.keep hk0 c' _ (fun _ _ => ⟨rfl, rfl⟩) (hset2 _ hv), fun hz2 => by rw [hz1] at hz2; cases hz2⟩ (by
         rw [Blk.live, hval]
         cases cap with | zero => omega | succ n => rfl)
       exact hn w' (hbel.mono hg.1) hk hm'
     ·cases h
    ·cases h
   ·cases h
  ·cases h
 ·cases h
def stB (P : Program) (ts : List AV) (mem : List Blk) (t : TypeId) (p x : Operand) : Option (Nat × Blk × Prop) :=
 match ev ts p with
 | some (.ptr b _) =>
  match evStore P ts mem t p x with
  | some (m, C) => some (b, lk m b, C)
  | none => none
 | _ => none
theorem ev_mono {ts ts' : List AV} {x : Operand} {a : AV} (h : ev ts x = some a) (hne : a ≠ .unk) (hm : ∀ t, ts.getD t .unk = ts'.getD t .unk ∨ ts.getD t .unk = .unk) : ev ts' x = some a := by
 cases x with
 | tmp t =>
  simp only [ev, Option.some.injEq] at h ⊢
  rcases hm t with h1 | h1
  ·rw [← h1]; exact h
  ·rw [h1] at h; exact absurd h.symm hne
 | _ => exact h
theorem stB_ok {P : Program} {ts ts' : List AV} {mem mem' : List Blk} {t : TypeId} {p x : Operand} {b : Nat} {blk : Blk} {C : Prop} (h : stB P ts mem t p x = some (b, blk, C)) (hm : ∀ t, ts.getD t .unk = ts'.getD t .unk ∨ ts.getD t .unk = .unk)
  (hb : lk mem' b = lk mem b) : evStore P ts' mem' t p x = some (mem'.set b blk, C) ∧ b < mem.length ∧ lk mem b ≠ .dead := by
 unfold stB at h
 split at h
 ·rename_i b' q hp
  split at h
  ·rename_i m D hst
   simp only [Option.some.injEq, Prod.mk.injEq] at h
   obtain ⟨rfl, rfl, rfl⟩ := h
   unfold evStore at hst ⊢
   rw [hp] at hst
   split at hst
   ·rename_i b2 q2 v hp2 hx
    simp only [Option.some.injEq, AV.ptr.injEq] at hp2
    obtain ⟨rfl, rfl⟩ := hp2
    split at hst
    ·rename_i hc
     have hv : v ≠ .unk := by intro e; subst e; simp [AV.flat, AV.agg] at hc
     rw [ev_mono hp (by intro e; cases e) hm, ev_mono hx hv hm]
     simp only [if_pos hc, hb]
     have hlt : ∀ y, lk mem b' = y → y ≠ .dead → b' < mem.length := fun y e hy => lk_lt (by rw [e]; exact hy)
     split at hst
     ·rename_i T c hlk
      have hl := hlt _ hlk (by intro e; cases e)
      split at hst
      ·rename_i c' D' hset
       simp only [Option.some.injEq, Prod.mk.injEq] at hst
       obtain ⟨rfl, rfl⟩ := hst
       refine ⟨?_, hl, by rw [hlk]; intro e; cases e⟩
       simp [hl]
      ·cases hst
     ·rename_i T e l hlk
      have hl := hlt _ hlk (by intro e; cases e)
      split at hst
      ·rename_i n e' l' D' hset
       split at hst
       ·rename_i he
        simp only [Option.some.injEq, Prod.mk.injEq] at hst
        obtain ⟨rfl, rfl⟩ := hst
        refine ⟨?_, hl, by rw [hlk]; intro e; cases e⟩
        simp [hl, he]
       ·cases hst
      ·cases hst
     ·rename_i T e l z c hlk
      have hl := hlt _ hlk (by intro e; cases e)
      split at hst
      ·split at hst
       ·simp only [Option.some.injEq, Prod.mk.injEq] at hst
        obtain ⟨rfl, rfl⟩ := hst
        refine ⟨?_, hl, by rw [hlk]; intro e; cases e⟩
        simp [hl]
       ·cases hst
      ·cases hst
     ·cases hst
    ·cases hst
   ·cases hst
  ·cases h
 ·cases h
def SrcV (w : World) (size : Nat) (v : Value) (m : Nat) (us : List Value) : Prop :=
 us.length = m * size ∧ ∃ ad cap, v = .slice ad m cap ∧ (0 < m → ∃ b off, ad = some ⟨b, off, none⟩ ∧ ∀ i u, us[i]? = some u → w.cell? ⟨b, off + i, none⟩ = some u)
theorem zcells_size (z : Array Value) (n : Nat) : (Builtin.zeroCells z n).size = n * z.size := by simp [Builtin.zeroCells]
theorem run_append_roomF {P : Program} (w : World) (t ty e : TypeId) (i : TypeInfo) (ht : P.underlying t = some (.slice e)) (hi : P.info? e = some i)
  (g sLen sCap : Nat) (cur : Array Value) (fr : Nat × Nat) (hg : w.heap[g]? = some (.cells cur e fr)) (hfr : fr = (0, 0) ∨ cur.size ≤ fr.1)
  (a : Addr) (m c : Nat) (news : List Value) (hl : news.length = m * i.size) (hnews : ∀ j u, news[j]? = some u → w.cell? (a.add j) = some u) (h1 : ∀ u ∈ news, u.oneCell' = true)
  (hroom : sLen + m ≤ sCap) (hfit : sLen * i.size + news.length ≤ cur.size) :
  (Builtin.append_ #[t, t] ty #[.slice (some ⟨g, 0, none⟩) sLen sCap, .slice (some a) m c]).run P w =
   .ok (.slice (some ⟨g, 0, none⟩) (sLen + m) sCap) (w.setRow g (cur.toList.take (sLen * i.size) ++ news ++ cur.toList.drop (sLen * i.size + news.length)).toArray) := by
 have hf := run_firstCells_some (P := P) w i.size m a m c news hl hnews
 have hst := run_storeCells_fr P g (sLen * i.size) e fr news 0 cur w hg (by simpa using hfit) hfr h1
 simp only [Nat.add_zero] at hst
 simp [Builtin.append_, run_underlying ht, sizeOf, typeInfo, hi, Builtin.lenOf, hroom, hf, Addr.add_lit, hst]
def capK (P : Program) (el : TypeId) : Nat :=
 match P.info? el with
 | some inf => 140737488355328 / inf.bytes
 | none => 0
theorem capK_le {P : Program} {el : TypeId} {inf : TypeInfo} (hi : P.info? el = some inf) {n : Nat} (h : n ≤ capK P el) : n * inf.bytes ≤ 140737488355328 ∧ n ≤ 140737488355328 := by
 unfold capK at h
 rw [hi] at h
 exact ⟨Nat.le_trans (Nat.mul_le_mul_right _ h) (Nat.div_mul_le_self _ _), Nat.le_trans h (Nat.div_le_self _ _)⟩
theorem run_app {P : Program} {w : World} {B n m : Nat} {t ty el : TypeId} {inf : TypeInfo} {z : Value} {size : Nat} (ht : P.underlying t = some (.slice el)) (hi : P.info? el = some inf) (hz : inf.zero = some z) (hzs : z.cells.size = size) (hsz : inf.size = size) (h0 : 0 < size) (hb : inf.bytes ≤ 4096)
  {v xv : Value} {xs us : List Value} (hv : RowV B w el size v n xs) (hx : SrcV w size xv m us) (hus : ∀ u ∈ us, u.oneCell' = true) (hC : n + m ≤ capK P el) (hB : B ≤ w.heap.size) :
  ∃ v' w', (Builtin.append_ #[t, t] ty #[v, xv]).run P w = .ok v' w' ∧ RowV B w' el size v' (n + m) (xs ++ us) ∧ Below B w w' ∧ (∀ g, g < w.heap.size → rowBlk v ≠ some g → w'.heap[g]? = w.heap[g]?) ∧ (∀ g, rowBlk v' = some g → rowBlk v = some g ∨ w.heap.size ≤ g) ∧ (Tight v → Tight v') := by
 obtain ⟨hul, ad, xcap, rfl, hsrc⟩ := hx
 obtain ⟨hbytes, hK⟩ := capK_le hi hC
 have hmax : n + m ≤ maxLen := by unfold maxLen; omega
 rcases Nat.eq_zero_or_pos m with hm | hm
 ·subst hm
  obtain rfl : us = [] := List.length_eq_zero_iff.1 (by omega)
  obtain ⟨a, cap, hval, hnc, _, _⟩ := hv.slice
  refine ⟨v, w, ?_, by simpa using hv, Below.refl _ _, fun _ _ _ => rfl, fun g hg => .inl hg, id⟩
  subst hval
  cases ad <;> cases a <;> simp [Builtin.append_, run_underlying ht, sizeOf, typeInfo, hi, Builtin.lenOf, Builtin.firstCells, hnc, storeCells, loadCells, loadCellsFrom]
 ·obtain ⟨b, off, rfl, hcell⟩ := hsrc hm
  have hnews : ∀ j u, us[j]? = some u → w.cell? ((⟨b, off, none⟩ : Addr).add j) = some u := fun j u hj => by rw [addr_add']; exact hcell j u hj
  have tg : ∀ (a : Addr) (k c : Nat), 0 < c → Tight (.slice (some a) k c) := fun a k c hc b j e => by
   have := (Value.slice.inj e).2.2
   omega
  have grown : ∀ (n' : Nat) (xs' : List Value) (old : Nat) (w' : World), n' + m ≤ maxLen → xs'.length = n' * size →
    w' = w.drew.alloc (.cells ((xs' ++ us).toArray ++ Builtin.zeroCells z.cells (grownCap w (n' + m) old el - (n' + m))) el) →
    RowV B w' el size (.slice (some ⟨w.heap.size, 0, none⟩) (n' + m) (grownCap w (n' + m) old el)) (n' + m) (xs' ++ us) ∧ Below B w w' ∧ (∀ g, g < w.heap.size → w'.heap[g]? = w.heap[g]?) ∧ (∀ g, rowBlk (.slice (some ⟨w.heap.size, 0, none⟩) (n' + m) (grownCap w (n' + m) old el)) = some g → w.heap.size ≤ g) := by
   intro n' xs' old w' hmax' hxs' hw'
   have hge := grownCap_ge w (n' + m) old el
   have hcm := grownCap_le_maxLen w (n' + m) old el hmax'
   have hlen : (xs' ++ us).length = (n' + m) * size := by rw [List.length_append, hxs', hul, Nat.add_mul]
   subst hw'
   refine ⟨?_, ((Below.refl B w).drew).alloc hB _, fun g hg => Below.heap_alloc w.drew _ g hg, fun g hg => ?_⟩
   ·refine .inr ⟨w.heap.size, grownCap w (n' + m) old el, (Builtin.zeroCells z.cells (grownCap w (n' + m) old el - (n' + m))).toList, rfl, by omega, hB, ?_, hge, hcm, hlen, ?_⟩
    ·refine ⟨(0, 0), ?_, .inl rfl⟩
     rw [show w.heap.size = w.drew.heap.size from rfl, alloc_new]
     congr 2
     apply Array.ext'
     simp
    ·rw [List.length_append, hlen]
     simp only [Array.length_toList, zcells_size, hzs, ← Nat.add_mul]
     congr 1
     omega
   ·generalize grownCap w (n' + m) old el = gc at hg
    cases gc with
    | zero => simp [rowBlk] at hg
    | succ k => simp [rowBlk] at hg; omega
  rcases hv with ⟨rfl, rfl, a, rfl⟩ | ⟨g, cap, rest, rfl, hcap, hBg, ho, h1, h2, h3, h4⟩
  ·cases a with
   | none =>
    have hr := run_append_nil (P := P) w t ty el inf z ht hi hz ⟨b, off, none⟩ m xcap us (by rw [hul, hsz]) hnews hm (by omega) (by simp only [Nat.zero_add] at hbytes; omega)
    have hg := grown 0 [] 0 _ hmax (by simp) rfl
    simp only [Nat.zero_add, List.nil_append] at hg ⊢
    exact ⟨_, _, hr, hg.1, hg.2.1, fun g hlt _ => hg.2.2.1 g hlt, fun g h => .inr (hg.2.2.2 g h), fun _ => tg _ _ _ (by have := grownCap_ge w m 0 el; omega)⟩
   | some a =>
    have hr := run_append_grow (P := P) w t ty el inf z ht hi hz a 0 0 [] (by simp) (fun j u hj => by simp at hj) ⟨b, off, none⟩ m xcap us (by rw [hul, hsz]) hnews (by omega) (by omega) (growslice_fits (by omega) hbytes)
    have hg := grown 0 [] 0 _ hmax (by simp) rfl
    have e : (([] : List Value).toArray ++ us.toArray) = ([] ++ us).toArray := by simp
    rw [e] at hr
    exact ⟨_, _, hr, hg.1, hg.2.1, fun g hlt _ => hg.2.2.1 g hlt, fun g h => .inr (hg.2.2.2 g h), fun _ => tg _ _ _ (by have := grownCap_ge w (0 + m) 0 el; omega)⟩
  ·by_cases hroom : n + m ≤ cap
   ·have hcsz : (xs ++ rest).toArray.size = cap * size := by simpa using h4
    have hfit : n * inf.size + us.length ≤ (xs ++ rest).toArray.size := by rw [hul, hcsz, hsz, ← Nat.add_mul]; exact Nat.mul_le_mul_right _ hroom
    obtain ⟨fr, ho, hfr⟩ := ho
    have hr := run_append_roomF (P := P) w t ty el inf ht hi g n cap (xs ++ rest).toArray fr ho (hfr.imp id fun h => by simpa using h.2) ⟨b, off, none⟩ m xcap us (by rw [hul, hsz]) hnews hus hroom hfit
    refine ⟨_, _, hr, ?_, ⟨rfl, rfl, rfl, by simp, fun k hk => setRow_other _ _ _ _ (by omega)⟩, fun g' _ hne => setRow_other _ _ _ _ (fun e => hne ?_), fun g' hg' => .inl ?_, fun _ => tg _ _ _ hcap⟩
    ·refine .inr ⟨g, cap, rest.drop us.length, rfl, hcap, hBg, ?_, hroom, h2, by rw [List.length_append, h3, hul, Nat.add_mul], ?_⟩
     ·have hfr2 : fr = (0, 0) ∨ (el = 5 ∧ (xs ++ us ++ rest.drop us.length).length ≤ fr.1) := hfr.imp id fun h => by
       refine ⟨h.1, ?_⟩
       have h := h.2
       have : (n + m) * size ≤ cap * size := Nat.mul_le_mul_right _ hroom
       rw [Nat.add_mul] at this
       simp only [List.length_append, List.length_drop] at h h4 ⊢
       omega
      refine ⟨fr, ?_, hfr2⟩
      rw [setRow_heap w g _ _ el fr ho]
      congr 2
      have e1 : n * inf.size = xs.length := by rw [h3, hsz]
      simp only [e1, List.append_assoc]
      rw [List.take_left, show xs.length + us.length = xs.length + us.length from rfl, ← List.drop_drop, List.drop_left]
     ·have : (n + m) * size ≤ cap * size := Nat.mul_le_mul_right _ hroom
      rw [Nat.add_mul] at this
      simp only [List.length_append, List.length_drop] at h4 ⊢
      omega
    ·subst e
     cases cap with
     | zero => omega
     | succ k => rfl
    ·cases cap with
     | zero => omega
     | succ k => simp [rowBlk] at hg' ⊢; exact hg'
   ·have holds : ∀ j u, xs[j]? = some u → w.cell? ((⟨g, 0, none⟩ : Addr).add j) = some u := fun j u hj => by rw [addr_add', Nat.zero_add]; exact ho.cell hj
    have hr := run_append_grow (P := P) w t ty el inf z ht hi hz ⟨g, 0, none⟩ n cap xs (by rw [h3, hsz]) holds ⟨b, off, none⟩ m xcap us (by rw [hul, hsz]) hnews (by omega) (by omega) (growslice_fits (by omega) hbytes)
    have hg := grown n xs cap _ hmax h3 rfl
    have e : (xs.toArray ++ us.toArray) = (xs ++ us).toArray := by simp
    rw [e] at hr
    exact ⟨_, _, hr, hg.1, hg.2.1, fun g hlt _ => hg.2.2.1 g hlt, fun g h => .inr (hg.2.2.2 g h), fun _ => tg _ _ _ (by have := grownCap_ge w (n + m) cap el; omega)⟩
def srcL (mem : List Blk) (e : Sh) : AV → Option (List e.T)
 | .sl e' l => if h : e' = e then some (h ▸ l) else none
 | .row r =>
  match lk mem r with
  | .row _ e' l => if h : e' = e then some (h ▸ l) else none
  | _ => none
 | .sub r size lo n =>
  match lk mem r with
  | .row _ e' l => if h : e' = e then (if size = e'.size then some (h ▸ ((l.take (lo + n)).drop lo)) else none) else none
  | _ => none
 | .nilS => some []
 | .emp => some []
 | _ => none
theorem SubR.view {B : Nat} {w : World} {fz : Nat → Prop} {t : TypeId} {e : Sh} {l : List e.T} {rv v : Value} {lo n : Nat} (hs : SubR e.size lo n rv v) {cs : List Value} (hrow : RowV B w t e.size rv l.length cs) (hcat : CatR (ShR w fz e) l cs) :
  ∃ us, SrcV w e.size v n us ∧ CatR (ShR w fz e) ((l.take (lo + n)).drop lo) us := by
 obtain ⟨ad, N, cap, a', rfl, hN, hcm, rfl, hle, ha⟩ := hs
 have hNl : N = l.length := by obtain ⟨a1, c1, e1, _⟩ := hrow.slice; exact (Value.slice.inj e1).2.1
 obtain ⟨c1, c2, c3, rfl, hl1, hc2⟩ := CatR.sub (fun y c hy => ShR.length e y c hy) hcat (lo := lo) (hi := lo + n) (by omega) (by omega)
 have hc2l := CatR.length (fun y c hy => ShR.length e y c hy) _ _ hc2
 rw [List.length_drop, List.length_take, show min (lo + n) l.length - lo = n by omega] at hc2l
 refine ⟨c2, ⟨hc2l, _, cap - lo, rfl, fun h0 => ?_⟩, hc2⟩
 rcases hrow with ⟨hn0, hnil, _⟩ | ⟨g, cap2, rest, hval, hcap, _, ho, _⟩
 ·have := congrArg List.length hnil
  simp only [List.length_append, List.length_nil] at this
  have hz : n * e.size = 0 := by omega
  omega
 ·obtain ⟨rfl, rfl, rfl⟩ := Value.slice.inj hval
  refine ⟨g, lo * e.size, ?_, fun i u hi => ?_⟩
  ·rw [ha (by omega), Option.map_some, addr_add', Nat.zero_add]
  ·rw [← hl1]
   have hlt : i < c2.length := (List.getElem?_eq_some_iff.1 hi).1
   exact ho.cell (by rw [List.append_assoc, List.getElem?_append_right (by omega), show c1.length + i - c1.length = i by omega, List.getElem?_append_left hlt]; exact hi)
theorem src_of {w : World} {fz : Nat → Prop} {e : Sh} {l : List e.T} {v : Value} (h : ShR w fz (.sl e) l [v]) : ∃ us, SrcV w e.size v l.length us ∧ CatR (ShR w fz e) l us := by
 obtain ⟨ad, cap, e1, _, _, hx⟩ := h
 obtain rfl : v = .slice ad l.length cap := by simpa using e1
 rcases Nat.eq_zero_or_pos l.length with h0 | h0
 ·have hl := List.length_eq_zero_iff.1 h0
  subst hl
  exact ⟨[], ⟨by simp, ad, cap, rfl, fun h => absurd h (by simp)⟩, rfl⟩
 ·obtain ⟨b, off, cells, rfl, _, _, hcat, hcell⟩ := hx h0
  exact ⟨cells, ⟨CatR.length (fun y c hy => ShR.length e y c hy) _ _ hcat, _, cap, rfl, fun _ => ⟨b, off, rfl, hcell⟩⟩, hcat⟩
theorem RowV.src {B : Nat} {w : World} {t : TypeId} {size n : Nat} {v : Value} {cs : List Value} (h : RowV B w t size v n cs) : SrcV w size v n cs := by
 rcases h with ⟨rfl, rfl, a, rfl⟩ | ⟨g, cap, rest, rfl, hcap, hBg, ho, h1, h2, h3, h4⟩
 ·exact ⟨by simp, a, 0, rfl, fun h => absurd h (by simp)⟩
 ·exact ⟨h3, _, cap, rfl, fun _ => ⟨g, 0, rfl, fun i u hi => by rw [Nat.zero_add]; exact ho.cell hi⟩⟩
theorem srcL_ok {B : Nat} {w : World} {G : Gh} {mem : List Blk} (hm : MemR B w G mem) {e : Sh} {x : AV} {l : List e.T} {v : Value} (h : srcL mem e x = some l) (hv : ValR w G x v) : ∃ us, SrcV w e.size v l.length us ∧ CatR (ShR w G.fz e) l us := by
 cases x with
 | sl e' l' =>
  simp only [srcL] at h
  split at h
  ·rename_i he
   subst he
   simp only [Option.some.injEq] at h
   subst h
   exact src_of (show ShR w G.fz (.sl e') l' [v] from hv)
  ·cases h
 | row r =>
  simp only [srcL] at h
  split at h
  ·rename_i t e' l' hlk
   split at h
   ·rename_i he
    subst he
    simp only [Option.some.injEq] at h
    subst h
    obtain ⟨e1, _⟩ := (show [v] = [G.rowv r] ∧ _ from hv)
    obtain rfl : v = G.rowv r := by simpa using e1
    have hb := hm.blk r
    rw [hlk] at hb
    obtain ⟨_, cs, hrow, hcat⟩ := hb
    exact ⟨cs, hrow.src, hcat⟩
   ·cases h
  ·cases h
 | sub r size lo n =>
  simp only [srcL] at h
  split at h
  ·rename_i t e' l' hlk
   split at h
   ·rename_i he
    subst he
    split at h
    ·rename_i hz
     subst hz
     simp only [Option.some.injEq] at h
     subst h
     obtain ⟨v', e1, hs⟩ := (show ∃ v', [v] = [v'] ∧ SubR e'.size lo n (G.rowv r) v' from hv)
     obtain rfl : v = v' := by simpa using e1
     have hb := hm.blk r
     rw [hlk] at hb
     obtain ⟨_, cs, hrow, hcat⟩ := hb
     obtain ⟨us, h1, h2⟩ := hs.view hrow hcat
     have hlen : ((l'.take (lo + n)).drop lo).length = n := by
      obtain ⟨ad, N, cap, a', e3, hN, _, _, hle, _⟩ := hs
      obtain ⟨a1, c1, e4, _⟩ := hrow.slice
      rw [e3] at e4
      have := (Value.slice.inj e4).2.1
      rw [List.length_drop, List.length_take]; omega
     exact ⟨us, by rw [hlen]; exact h1, h2⟩
    ·cases h
   ·cases h
  ·cases h
 | nilS =>
  simp only [srcL, Option.some.injEq] at h
  subst h
  obtain rfl : v = .slice none 0 0 := by have : [v] = [Value.slice none 0 0] := hv; simpa using this
  exact ⟨[], ⟨by simp, none, 0, rfl, fun h => absurd h (by simp)⟩, rfl⟩
 | emp =>
  simp only [srcL, Option.some.injEq] at h
  subst h
  obtain ⟨a, e1⟩ := (show ∃ a, [v] = [Value.slice a 0 0] from hv)
  obtain rfl : v = .slice a 0 0 := by simpa using e1
  exact ⟨[], ⟨by simp, a, 0, rfl, fun h => absurd h (by simp)⟩, rfl⟩
 | _ => cases h
def elemOk (P : Program) (el : TypeId) (e : Sh) : Bool :=
 match P.info? el with
 | some inf =>
  match inf.zero with
  | some z => decide (z.cells.size = e.size) && (decide (inf.size = e.size) && (decide (0 < e.size) && decide (inf.bytes ≤ 4096)))
  | none => false
 | none => false
theorem elemOk_ok {P : Program} {el : TypeId} {e : Sh} (h : elemOk P el e = true) : ∃ inf z, P.info? el = some inf ∧ inf.zero = some z ∧ z.cells.size = e.size ∧ inf.size = e.size ∧ 0 < e.size ∧ inf.bytes ≤ 4096 := by
 unfold elemOk at h
 split at h
 ·rename_i inf hi
  split at h
  ·rename_i z hz
   simp only [Bool.and_eq_true, decide_eq_true_eq] at h
   exact ⟨inf, z, hi, hz, h.1, h.2.1, h.2.2.1, h.2.2.2⟩
  ·cases h
 ·cases h
def Blk.isB : Blk → Bool
 | .bbuf _ _ _ => true
 | _ => false
def mkRow (b : Bool) (t : TypeId) (e : Sh) (l : List e.T) : Blk := match b with | true => .bbuf t e l | false => .row t e l
def dstL (mem : List Blk) (a : AV) : Option (Nat × TypeId × (Σ e : Sh, List e.T)) :=
 match a with
 | .row r =>
  match lk mem r with
  | .row T e l => some (r, T, ⟨e, l⟩)
  | .bbuf T e l => some (r, T, ⟨e, l⟩)
  | _ => none
 | .sub r size 0 n =>
  match lk mem r with
  | .row T e l => if size = e.size then some (r, T, ⟨e, l.take n⟩) else none
  | _ => none
 | _ => none
theorem dstL_ok {B : Nat} {w : World} {G : Gh} {mem : List Blk} (hm : MemR B w G mem) {sv : AV} {v : Value} {r : Nat} {T : TypeId} {e : Sh} {l : List e.T} (h : dstL mem sv = some (r, T, ⟨e, l⟩)) (hv : ValR w G sv v) :
  ∃ cs, RowV B w T e.size v l.length cs ∧ CatR (ShR w G.fz e) l cs ∧ (lk mem r).live G r = rowBlk v ∧ lk mem r ≠ .dead ∧ ((lk mem r).isB = true → Tight v) := by
 unfold dstL at h
 split at h
 ·rename_i r'
  split at h
  ·rename_i T' e' l' hlk
   simp only [Option.some.injEq, Prod.mk.injEq, Sigma.mk.injEq] at h
   obtain ⟨rfl, rfl, rfl, h⟩ := h
   obtain rfl := eq_of_heq h
   have hb := hm.blk r'
   rw [hlk] at hb
   obtain ⟨_, cs, hrow, hcat⟩ := hb
   obtain ⟨e1, _⟩ := (show [v] = [G.rowv r'] ∧ _ from hv)
   obtain rfl : v = G.rowv r' := by simpa using e1
   exact ⟨cs, hrow, hcat, by rw [hlk]; rfl, (by rw [hlk]; exact fun h => (by cases h)), (by rw [hlk]; exact fun h => (by cases h))⟩
  ·rename_i T' e' l' hlk
   simp only [Option.some.injEq, Prod.mk.injEq, Sigma.mk.injEq] at h
   obtain ⟨rfl, rfl, rfl, h⟩ := h
   obtain rfl := eq_of_heq h
   have hb := hm.blk r'
   rw [hlk] at hb
   obtain ⟨⟨_, cs, hrow, hcat⟩, htt⟩ := hb
   obtain ⟨e1, _⟩ := (show [v] = [G.rowv r'] ∧ _ from hv)
   obtain rfl : v = G.rowv r' := by simpa using e1
   exact ⟨cs, hrow, hcat, by rw [hlk]; rfl, (by rw [hlk]; exact fun h => (by cases h)), fun _ => htt⟩
  ·cases h
 ·rename_i r' size n
  split at h
  ·rename_i T' e' l' hlk
   split at h
   ·rename_i hz
    subst hz
    simp only [Option.some.injEq, Prod.mk.injEq, Sigma.mk.injEq] at h
    obtain ⟨rfl, rfl, rfl, h⟩ := h
    obtain rfl := eq_of_heq h
    have hb := hm.blk r'
    rw [hlk] at hb
    obtain ⟨_, cs, hrow, hcat⟩ := hb
    obtain ⟨v', e1, ad, N, cap, a', hrv, hN, hcm, rfl, hle, ha⟩ := (show ∃ v', [v] = [v'] ∧ SubR e'.size 0 n (G.rowv r') v' from hv)
    obtain rfl : v = _ := by simpa using e1
    rw [Nat.zero_add] at hle
    rcases hrow with ⟨hn0, hnil, ax, hval⟩ | ⟨g, cap2, rest, hval, hcap, hBg, ho, h1, h2, h3, h4⟩
    ·rw [hval] at hrv
     obtain ⟨rfl, rfl, rfl⟩ := Value.slice.inj hrv
     have hl0 : l' = [] := List.length_eq_zero_iff.1 hn0
     subst hl0
     obtain rfl : n = 0 := by omega
     refine ⟨[], .inl ⟨rfl, rfl, a', rfl⟩, rfl, ?_, (by rw [hlk]; exact fun h => (by cases h)), (by rw [hlk]; exact fun h => (by cases h))⟩
     rw [hlk, Blk.live, hval]; rfl
    ·rw [hval] at hrv
     obtain ⟨rfl, rfl, rfl⟩ := Value.slice.inj hrv
     have hnl : n ≤ l'.length := hle
     have hcat2 := hcat
     rw [← List.take_append_drop n l'] at hcat2
     obtain ⟨ca, cb, rfl, k1, k2⟩ := CatR.split hcat2
     have hla := CatR.length (fun y c hy => ShR.length e' y c hy) _ _ k1
     have hlt : (l'.take n).length = n := by rw [List.length_take]; omega
     have ha' : a' = some ⟨g, 0, none⟩ := by rw [ha (by omega)]; simp [Addr.add]
     refine ⟨ca, .inr ⟨g, cap2, cb ++ rest, ?_, hcap, hBg, ?_, by rw [hlt]; omega, h2, hla, ?_⟩, k1, ?_, (by rw [hlk]; exact fun h => (by cases h)), (by rw [hlk]; exact fun h => (by cases h))⟩
     ·rw [ha', hlt]
     ·obtain ⟨fr, ho, hfr⟩ := ho
      refine ⟨fr, ?_, ?_⟩
      ·rw [← List.append_assoc]; exact ho
      ·rw [← List.append_assoc]; exact hfr
     ·rw [← List.append_assoc]; exact h4
     ·rw [hlk, Blk.live, hval, ha']
      cases cap2 with
      | zero => omega
      | succ c => rfl
   ·cases h
  ·cases h
 ·cases h
def evAppend (P : Program) (ts : List AV) (mem : List Blk) (s x : Operand) (t : TypeId) : Option (AV × List Blk × Prop) :=
 match P.underlying t, ev ts s, ev ts x with
 | some (.slice el), some sv, some xv =>
  match dstL mem sv with
  | some (r, T, ⟨e, l⟩) =>
   match srcL mem e xv with
   | some l' => if T = el ∧ elemOk P el e = true then some (.row mem.length, memPut (mem.set r .dead) mem.length [mkRow (lk mem r).isB el e (l ++ l')], l.length + l'.length ≤ capK P el) else none
   | none => none
  | none =>
  match sv with
  | .nilS =>
   match shOf P 12 el with
   | some e =>
    match srcL mem e xv with
    | some l' => if elemOk P el e = true then some (.row mem.length, memPut mem mem.length [.row el e l'], l'.length ≤ capK P el) else none
    | none => none
   | none => none
  | .emp =>
   match shOf P 12 el with
   | some e =>
    match srcL mem e xv with
    | some l' => if elemOk P el e = true then some (.row mem.length, memPut mem mem.length [.row el e l'], l'.length ≤ capK P el) else none
    | none => none
   | none => none
  | _ => none
 | _, _, _ => none
theorem MemR.newRowAt {B : Nat} {w w' : World} {G : Gh} {mem mem0 : List Blk} {el : TypeId} {e : Sh} {l : List e.T} {us : List Value} {v' : Value} {old : Option Nat} (base : Nat) (hm : MemR B w G mem)
  (hm0 : ∀ i, lk mem0 i = lk mem i ∨ lk mem0 i = .dead) (hold : ∀ i g, old = some g → (lk mem0 i).live G i ≠ some g) (holdB : ∀ g, old = some g → ¬ G.fz g)
  (hrefs : ∀ i r, r ∈ (lk mem i).refs → r ≠ base)
  (hbel : Below B w w') (hblk : ∀ g, g < w.heap.size → old ≠ some g → w'.heap[g]? = w.heap[g]?) (hrow : RowV B w' el e.size v' l.length us) (hnew : ∀ g, rowBlk v' = some g → old = some g ∨ w.heap.size ≤ g) (hcat : CatR (ShR w G.fz e) l us) :
  ∃ G', MemR B w' G' (memPut mem0 base [.row el e l]) ∧ Keeps G.fz G'.fz w w' ∧ (∀ i, i ≠ base → Agree G G' i) ∧ G'.rowv base = v' ∧ G'.fz = G.fz := by
 have hk : Keeps G.fz G.fz w w' := ⟨hbel.size, fun b hf hlt => hblk b hlt (fun ho => holdB b ho hf), fun _ h => h⟩
 let G' : Gh := G.put base (match rowBlk v' with | some g => ⟨g, 0, none⟩ | none => default) v'
 have hag : ∀ i, i ≠ base → Agree G G' i := fun i hi => Gh.put_agree _ _ _ _ _ hi
 have hlv : ∀ i x, i ≠ base → (lk mem0 i).live G' i = some x → (lk mem i).live G i = some x ∧ old ≠ some x := by
  intro i x hi h
  rw [live_agree (lk mem0 i) (hag i hi)] at h
  refine ⟨?_, fun ho => hold i x ho h⟩
  rcases hm0 i with e1 | e1
  ·rw [e1] at h; exact h
  ·rw [e1] at h; cases h
 have hlk : ∀ i, lk (memPut mem0 base [.row el e l]) i = if i = base then .row el e l else lk mem0 i := by
  intro i
  rw [lk_memPut]
  by_cases h : i = base
  ·subst h; rw [if_pos (by simp), if_pos rfl, Nat.sub_self]; rfl
  ·rw [if_neg (by simp; omega), if_neg h]
 have hnlive : ∀ x, (Blk.row el e l).live G' base = some x → rowBlk v' = some x := by
  intro x h
  simp only [Blk.live, G', Gh.put, if_true] at h
  exact h
 refine ⟨G', ⟨fun i => ?_, fun i j x hij hi hj => ?_, fun i x hi => ?_, fun b hb => Nat.lt_of_lt_of_le (hm.fz b hb) hbel.size, hm.base.below hbel⟩, hk, fun i hi => hag i hi, by simp [G', Gh.put], rfl⟩
 ·rw [hlk]
  split
  ·rename_i h
   subst h
   refine ⟨fun g hg => ?_, us, ?_, CatR.mono (fun y c hy => ShR.keep hk e y c hy) _ _ hcat⟩
   ·simp only [G', Gh.put, if_true] at hg ⊢
    rw [hg]
   ·simpa [G', Gh.put] using hrow
  ·rename_i h
   rcases hm0 i with e1 | e1
   ·rw [e1]
    refine (hm.blk i).keep hk (hag i h) (fun r hr => hag r (hrefs i r hr)) (Nat.le_refl _) (fun x hx => ?_)
    have hx0 : (lk mem0 i).live G i = some x := by rw [e1]; exact hx
    exact hblk x (hm.own i x hx).2.1 (fun ho => hold i x ho hx0)
   ·rw [e1]; trivial
 ·rw [hlk] at hi hj
  split at hi <;> split at hj
  ·omega
  ·rename_i h1 h2
   subst h1
   obtain ⟨h3, h4⟩ := hlv j x h2 hj
   rcases hnew x (hnlive x hi) with h | h
   ·exact h4 h
   ·have := (hm.own j x h3).2.1; omega
  ·rename_i h1 h2
   subst h2
   obtain ⟨h3, h4⟩ := hlv i x h1 hi
   rcases hnew x (hnlive x hj) with h | h
   ·exact h4 h
   ·have := (hm.own i x h3).2.1; omega
  ·rename_i h1 h2
   exact hm.apart i j x hij (hlv i x h1 hi).1 (hlv j x h2 hj).1
 ·rw [hlk] at hi
  split at hi
  ·rename_i h
   subst h
   have hv := hnlive x hi
   refine ⟨(hrow.blk hv).1, (hrow.blk hv).2, fun hf => ?_⟩
   rcases hnew x hv with h | h
   ·exact holdB x h hf
   ·have := hm.fz x hf; omega
  ·rename_i h
   have := hm.own i x (hlv i x h hi).1
   exact ⟨this.1, Nat.lt_of_lt_of_le this.2.1 hbel.size, this.2.2⟩
theorem MemR.newRow {B : Nat} {w w' : World} {G : Gh} {mem mem0 : List Blk} {el : TypeId} {e : Sh} {l : List e.T} {us : List Value} {v' : Value} {old : Option Nat} (hm : MemR B w G mem)
  (hm0 : ∀ i, lk mem0 i = lk mem i ∨ lk mem0 i = .dead) (hl0 : mem0.length = mem.length) (hold : ∀ i g, old = some g → (lk mem0 i).live G i ≠ some g) (holdB : ∀ g, old = some g → ¬ G.fz g)
  (hrefs : ∀ i r, r ∈ (lk mem i).refs → r < mem.length)
  (hbel : Below B w w') (hblk : ∀ g, g < w.heap.size → old ≠ some g → w'.heap[g]? = w.heap[g]?) (hrow : RowV B w' el e.size v' l.length us) (hnew : ∀ g, rowBlk v' = some g → old = some g ∨ w.heap.size ≤ g) (hcat : CatR (ShR w G.fz e) l us) :
  ∃ G', MemR B w' G' (memPut mem0 mem.length [.row el e l]) ∧ Keeps G.fz G'.fz w w' ∧ (∀ i, i < mem.length → Agree G G' i) ∧ G'.rowv mem.length = v' ∧ G'.fz = G.fz := by
 obtain ⟨G', g1, g2, g3, g4, g5⟩ := hm.newRowAt mem.length hm0 hold holdB (fun i r hr => by have := hrefs i r hr; omega) hbel hblk hrow hnew hcat
 exact ⟨G', g1, g2, fun i hi => g3 i (by omega), g4, g5⟩
theorem MemR.swapB {B : Nat} {w : World} {G : Gh} {mem mem' : List Blk} {r : Nat} {t : TypeId} {e : Sh} {l : List e.T} (hm : MemR B w G mem) (h1 : ∀ i, i ≠ r → lk mem' i = lk mem i) (h2 : lk mem r = .row t e l) (h3 : lk mem' r = .bbuf t e l) (ht : Tight (G.rowv r)) : MemR B w G mem' := by
 have hlv : ∀ i, (lk mem' i).live G i = (lk mem i).live G i := fun i => by
  by_cases h : i = r
  ·subst h; rw [h2, h3]; rfl
  ·rw [h1 i h]
 refine ⟨fun i => ?_, fun i j x hij hi hj => ?_, fun i x hi => hm.own i x (by rw [← hlv]; exact hi), hm.fz, hm.base⟩
 ·by_cases h : i = r
  ·subst h
   rw [h3]
   have := hm.blk i
   rw [h2] at this
   exact ⟨this, ht⟩
  ·rw [h1 i h]; exact hm.blk i
 ·rw [hlv] at hi hj
  exact hm.apart i j x hij hi hj
theorem evAppend_ok {P : Program} {o : Oper} {ts : List AV} {mem mem' : List Blk} {s x : Operand} {t : TypeId} {av : AV} {C : Prop} (ho : o.op = .call { callee := .builtin .append, args := #[s, x], argTypes := #[t, t] }) (h : evAppend P ts mem s x t = some (av, mem', C)) :
  EffOp P o ts mem (tput ts o.dst av) mem' C := by
 intro B w G a hC hm ht hrt hrm next Q hn
 unfold evAppend at h
 split at h
 ·rename_i el sv xv hut hs hx
  have go : ∀ (e : Sh) (n : Nat) (xs : List Value) (l0 l' : List e.T) (mem0 : List Blk) (old : Option Nat), elemOk P el e = true → RowV B w el e.size (a.eval s) n xs → l0.length = n → CatR (ShR w G.fz e) l0 xs → srcL mem e xv = some l' → n + l'.length ≤ capK P el →
    (∀ i, lk mem0 i = lk mem i ∨ lk mem0 i = .dead) → mem0.length = mem.length → rowBlk (a.eval s) = old → (∀ i g, old = some g → (lk mem0 i).live G i ≠ some g) → (∀ g, old = some g → ¬ G.fz g) → ∀ (bb : Bool), (bb = true → Tight (a.eval s)) →
    mem' = memPut mem0 mem.length [mkRow bb el e (l0 ++ l')] → av = .row mem.length → o.wp P a w next Q := by
   intro e n xs l0 l' mem0 old hel hrow hl0 hcat0 hsrc hle hm0 hlen0 hold hold1 hold2 bb hbb hmem hav
   obtain ⟨inf, z, hi, hz, h1, h2, h3, h4⟩ := elemOk_ok hel
   obtain ⟨us, hus, hcat⟩ := srcL_ok hm hsrc (ev_ok ht hx)
   obtain ⟨v', w', hr, hr1, hr2, hr3, hr4, hr5⟩ := run_app (P := P) (ty := o.type) hut hi hz h1 h2 h3 h4 hrow hus (CatR.one' e _ _ hcat) hle hm.base.1
   subst hmem; subst hav
   rw [hold] at hr3 hr4
   obtain ⟨G', g1, g2, g3, g4, g5⟩ := hm.newRow (l := l0 ++ l') hm0 hlen0 hold1 hold2 hrm hr2 hr3 (by rw [List.length_append, hl0]; exact hr1) hr4 (CatR.append hcat0 hcat)
   unfold Oper.wp
   have e1 : (execOp a.eval o).run P w = .ok (.value v') w' := by
    simp only [execOp, ho, resolve, Sem.run_bind, Sem.run_pure, Result.andThen_ok, invoke, builtin, List.map_toArray, List.map_cons, List.map_nil, hr]
   rw [e1]
   have g1' : MemR B w' G' (memPut mem0 mem.length [mkRow bb el e (l0 ++ l')]) := by
    cases bb with
    | false => exact g1
    | true =>
     have k : ∀ (x : Blk) (i : Nat), lk (memPut mem0 mem.length [x]) i = if i = mem.length then x else lk mem0 i := by
      intro x i
      rw [lk_memPut]
      by_cases h : i = mem.length
      ·subst h; rw [if_pos (by simp), if_pos rfl, Nat.sub_self]; rfl
      ·rw [if_neg (by simp; omega), if_neg h]
     exact g1.swapB (r := mem.length) (fun i hi => by rw [k, k, if_neg hi, if_neg hi]) (by rw [k, if_pos rfl]) (by rw [k, if_pos rfl]; rfl) (by rw [g4]; exact hr5 (hbb rfl))
   refine hn _ w' G' hr2 ⟨fun b h => by rw [g5]; exact h, fun b h => .inl (by rw [g5] at h; exact h), g2.block⟩ g1' ((ht.keep g2 (fun t r hr => g3 r (hrt t r hr))).put _ ?_) (put_defers _ _ _)
   show [v'] = [G'.rowv mem.length] ∧ _
   rw [g4]
   exact ⟨rfl, hr1.one⟩
  split at h
  ·rename_i r T e l hdst
   split at h
   ·rename_i l' hsrc
    split at h
    ·rename_i hcond
     obtain ⟨rfl, hel⟩ := hcond
     simp only [Option.some.injEq, Prod.mk.injEq] at h
     obtain ⟨rfl, rfl, rfl⟩ := h
     obtain ⟨cs, hrow, hcat, hlive, hnd, htt⟩ := dstL_ok hm hdst (ev_ok ht hs)
     have hrl : r < mem.length := lk_lt hnd
     refine go e l.length cs l l' (mem.set r .dead) (rowBlk (a.eval s)) hel hrow rfl hcat hsrc hC (fun i => ?_) (by simp) rfl (fun i g hg hi => ?_) (fun g hg => ?_) _ htt rfl rfl
     ·rw [lk_set]; split
      ·exact .inr rfl
      ·exact .inl rfl
     ·rw [lk_set] at hi
      split at hi
      ·cases hi
      ·rename_i hir
       exact hm.apart i r g (fun e => hir ⟨e, hrl⟩) hi (by rw [hlive]; exact hg)
     ·exact (hm.own r g (by rw [hlive]; exact hg)).2.2
    ·cases h
   ·cases h
  split at h
  ·split at h
   ·rename_i e hsh
    split at h
    ·rename_i l' hsrc
     split at h
     ·rename_i hel
      simp only [Option.some.injEq, Prod.mk.injEq] at h
      obtain ⟨rfl, rfl, rfl⟩ := h
      have e2 : a.eval s = .slice none 0 0 := by
       have : [a.eval s] = [Value.slice none 0 0] := ev_ok ht hs
       simpa using this
      exact go e 0 [] [] l' mem none hel (by rw [e2]; exact .inl ⟨rfl, rfl, none, rfl⟩) rfl rfl hsrc (by omega) (fun i => .inl rfl) rfl (by rw [e2]; rfl) (fun i g hg => by cases hg) (fun g hg => by cases hg) false (fun h => by cases h) rfl rfl
     ·cases h
    ·cases h
   ·cases h
  ·split at h
   ·rename_i e hsh
    split at h
    ·rename_i l' hsrc
     split at h
     ·rename_i hel
      simp only [Option.some.injEq, Prod.mk.injEq] at h
      obtain ⟨rfl, rfl, rfl⟩ := h
      obtain ⟨ad, e1⟩ := (show ∃ ad, [a.eval s] = [Value.slice ad 0 0] from ev_ok ht hs)
      have e2 : a.eval s = .slice ad 0 0 := by simpa using e1
      exact go e 0 [] [] l' mem none hel (by rw [e2]; exact .inl ⟨rfl, rfl, ad, rfl⟩) rfl rfl hsrc (by omega) (fun i => .inl rfl) rfl (by rw [e2]; rfl) (fun i g hg => by cases hg) (fun g hg => by cases hg) false (fun h => by cases h) rfl rfl
     ·cases h
    ·cases h
   ·cases h
  ·cases h
 ·cases h
def sliceAddr : Value → Addr
 | .slice (some a) _ _ => a
 | _ => default
theorem MemR.swapX {B : Nat} {w : World} {G : Gh} {mem : List Blk} {r : Nat} {x : Blk} (hm : MemR B w G mem) (h : BlkR B w G r x) (hl : x.live G r = (lk mem r).live G r) : MemR B w G (mem.set r x) := by
 have hlv : ∀ i, (lk (mem.set r x) i).live G i = (lk mem i).live G i := fun i => by
  rw [lk_set]
  split
  ·rename_i hh; rw [hh.1]; exact hl
  ·rfl
 refine ⟨fun i => ?_, fun i j y hij hi hj => ?_, fun i y hi => hm.own i y (by rw [← hlv]; exact hi), hm.fz, hm.base⟩
 ·rw [lk_set]
  split
  ·rename_i hh; rw [hh.1]; exact h
  ·exact hm.blk i
 ·rw [hlv] at hi hj
  exact hm.apart i j y hij hi hj
theorem MemR.newBlkAt {B : Nat} {w w' : World} {G : Gh} {mem mem0 : List Blk} {x : Blk} {v' : Value} {old : Option Nat} (base : Nat) (hm : MemR B w G mem)
  (hm0 : ∀ i, lk mem0 i = lk mem i ∨ lk mem0 i = .dead) (hold : ∀ i g, old = some g → (lk mem0 i).live G i ≠ some g) (holdB : ∀ g, old = some g → ¬ G.fz g)
  (hrefs : ∀ i r, r ∈ (lk mem i).refs → r ≠ base)
  (hbel : Below B w w') (hblk : ∀ g, g < w.heap.size → old ≠ some g → w'.heap[g]? = w.heap[g]?) (hnew : ∀ g, rowBlk v' = some g → old = some g ∨ w.heap.size ≤ g) (hv : ∀ g, rowBlk v' = some g → B ≤ g ∧ g < w'.heap.size)
  (hx : ∀ G' : Gh, G'.fz = G.fz → G'.rowv base = v' → G'.addr base = sliceAddr v' → (∀ i, i ≠ base → Agree G G' i) → Keeps G.fz G'.fz w w' → BlkR B w' G' base x ∧ x.live G' base = rowBlk v') :
  ∃ G', MemR B w' G' (memPut mem0 base [x]) ∧ Keeps G.fz G'.fz w w' ∧ (∀ i, i ≠ base → Agree G G' i) ∧ G'.rowv base = v' ∧ G'.fz = G.fz := by
 have hk : Keeps G.fz G.fz w w' := ⟨hbel.size, fun b hf hlt => hblk b hlt (fun ho => holdB b ho hf), fun _ h => h⟩
 let G' : Gh := G.put base (sliceAddr v') v'
 have hag : ∀ i, i ≠ base → Agree G G' i := fun i hi => Gh.put_agree _ _ _ _ _ hi
 obtain ⟨hx1, hx2⟩ := hx G' rfl (by simp [G', Gh.put]) (by simp [G', Gh.put]) hag hk
 have hlv : ∀ i y, i ≠ base → (lk mem0 i).live G' i = some y → (lk mem i).live G i = some y ∧ old ≠ some y := by
  intro i y hi h
  rw [live_agree (lk mem0 i) (hag i hi)] at h
  refine ⟨?_, fun ho => hold i y ho h⟩
  rcases hm0 i with e1 | e1
  ·rw [e1] at h; exact h
  ·rw [e1] at h; cases h
 have hlk : ∀ i, lk (memPut mem0 base [x]) i = if i = base then x else lk mem0 i := by
  intro i
  rw [lk_memPut]
  by_cases h : i = base
  ·subst h; rw [if_pos (by simp), if_pos rfl, Nat.sub_self]; rfl
  ·rw [if_neg (by simp; omega), if_neg h]
 refine ⟨G', ⟨fun i => ?_, fun i j y hij hi hj => ?_, fun i y hi => ?_, fun b hb => Nat.lt_of_lt_of_le (hm.fz b hb) hbel.size, hm.base.below hbel⟩, hk, fun i hi => hag i hi, by simp [G', Gh.put], rfl⟩
 ·rw [hlk]
  split
  ·rename_i h; subst h; exact hx1
  ·rename_i h
   rcases hm0 i with e1 | e1
   ·rw [e1]
    refine (hm.blk i).keep hk (hag i h) (fun r hr => hag r (hrefs i r hr)) (Nat.le_refl _) (fun y hy => ?_)
    have hy0 : (lk mem0 i).live G i = some y := by rw [e1]; exact hy
    exact hblk y (hm.own i y hy).2.1 (fun ho => hold i y ho hy0)
   ·rw [e1]; trivial
 ·rw [hlk] at hi hj
  split at hi <;> split at hj
  ·omega
  ·rename_i h1 h2
   subst h1
   obtain ⟨h3, h4⟩ := hlv j y h2 hj
   rw [hx2] at hi
   rcases hnew y hi with h | h
   ·exact h4 h
   ·have := (hm.own j y h3).2.1; omega
  ·rename_i h1 h2
   subst h2
   obtain ⟨h3, h4⟩ := hlv i y h1 hi
   rw [hx2] at hj
   rcases hnew y hj with h | h
   ·exact h4 h
   ·have := (hm.own i y h3).2.1; omega
  ·rename_i h1 h2
   exact hm.apart i j y hij (hlv i y h1 hi).1 (hlv j y h2 hj).1
 ·rw [hlk] at hi
  split at hi
  ·rename_i h
   subst h
   rw [hx2] at hi
   refine ⟨(hv y hi).1, (hv y hi).2, fun hf => ?_⟩
   rcases hnew y hi with h | h
   ·exact holdB y h hf
   ·have := hm.fz y hf; omega
  ·rename_i h
   have := hm.own i y (hlv i y h hi).1
   exact ⟨this.1, Nat.lt_of_lt_of_le this.2.1 hbel.size, this.2.2⟩
theorem RowV.at0 {B : Nat} {w : World} {t : TypeId} {size : Nat} {v : Value} {n : Nat} {cs : List Value} (h : RowV B w t size v n cs) {a : Addr} (ha : ∀ g, rowBlk v = some g → a = ⟨g, 0, none⟩) : RowAt v a := by
 intro g o k cap hv hc
 rcases h with ⟨_, _, a', rfl⟩ | ⟨g', cap', rest, rfl, _⟩
 ·have := (Value.slice.inj hv).2.2; omega
 ·obtain ⟨h1, h2, h3⟩ := Value.slice.inj hv
  obtain ⟨rfl, rfl, _⟩ := Addr.mk.inj (Option.some.inj h1)
  refine ha g' ?_
  cases cap' with
  | zero => omega
  | succ c => rfl
def rowD (mem : List Blk) (r : Nat) : Option (TypeId × (Σ e : Sh, List e.T)) :=
 match lk mem r with
 | .row T e l => some (T, ⟨e, l⟩)
 | .rowl T e l none => some (T, ⟨e, l⟩)
 | _ => none
theorem rowD_ok {B : Nat} {w : World} {G : Gh} {mem : List Blk} (hm : MemR B w G mem) {r : Nat} {T : TypeId} {e : Sh} {l : List e.T} (h : rowD mem r = some (T, ⟨e, l⟩)) :
  ∃ cs, RowO B w T e.size (G.rowv r) l.length cs ∧ CatR (ShR w G.fz e) l cs ∧ RowAt (G.rowv r) (G.addr r) ∧ (lk mem r).live G r = rowBlk (G.rowv r) ∧ lk mem r ≠ .dead := by
 unfold rowD at h
 split at h
 ·rename_i T' e' l' hlk
  simp only [Option.some.injEq, Prod.mk.injEq, Sigma.mk.injEq] at h
  obtain ⟨rfl, rfl, h⟩ := h
  obtain rfl := eq_of_heq h
  have hb := hm.blk r
  rw [hlk] at hb
  obtain ⟨ha, cs, hrow, hcat⟩ := hb
  exact ⟨cs, hrow.toO, hcat, hrow.at0 ha, by rw [hlk]; rfl, by rw [hlk]; exact fun h => by cases h⟩
 ·rename_i T' e' l' hlk
  simp only [Option.some.injEq, Prod.mk.injEq, Sigma.mk.injEq] at h
  obtain ⟨rfl, rfl, h⟩ := h
  obtain rfl := eq_of_heq h
  have hb := hm.blk r
  rw [hlk] at hb
  obtain ⟨ha, cs, c2, hrow, hcat, hx⟩ := hb
  obtain rfl : c2 = [] := hx
  rw [List.append_nil, show lstN none = 0 from rfl, Nat.add_zero] at hrow
  exact ⟨cs, hrow, hcat, ha, by rw [hlk]; rfl, by rw [hlk]; exact fun h => by cases h⟩
 ·cases h
theorem rowAt_self {B : Nat} {w : World} {t : TypeId} {size : Nat} {v : Value} {n : Nat} {cs : List Value} (h : RowO B w t size v n cs) : RowAt v (sliceAddr v) := by
 intro g o k cap hv hc
 rw [hv]; rfl
theorem run_append_roomO {P : Program} (w : World) (t ty e : TypeId) (i : TypeInfo) (ht : P.underlying t = some (.slice e)) (hi : P.info? e = some i)
  (g o sLen sCap : Nat) (cur : Array Value) (fr : Nat × Nat) (hg : w.heap[g]? = some (.cells cur e fr)) (hfr : fr = (0, 0) ∨ cur.size ≤ fr.1)
  (a : Addr) (m c : Nat) (news : List Value) (hl : news.length = m * i.size) (hnews : ∀ j u, news[j]? = some u → w.cell? (a.add j) = some u) (h1 : ∀ u ∈ news, u.oneCell' = true)
  (hroom : sLen + m ≤ sCap) (hfit : o + sLen * i.size + news.length ≤ cur.size) :
  (Builtin.append_ #[t, t] ty #[.slice (some ⟨g, o, none⟩) sLen sCap, .slice (some a) m c]).run P w =
   .ok (.slice (some ⟨g, o, none⟩) (sLen + m) sCap) (w.setRow g (cur.toList.take (o + sLen * i.size) ++ news ++ cur.toList.drop (o + sLen * i.size + news.length)).toArray) := by
 have hf := run_firstCells_some (P := P) w i.size m a m c news hl hnews
 have hst := run_storeCells_fr P g (o + sLen * i.size) e fr news 0 cur w hg (by simpa using hfit) hfr h1
 simp only [Nat.add_zero] at hst
 simp [Builtin.append_, run_underlying ht, sizeOf, typeInfo, hi, Builtin.lenOf, hroom, hf, addr_add', hst]
theorem run_appO {P : Program} {w : World} {B n m : Nat} {t ty el : TypeId} {inf : TypeInfo} {z : Value} {size : Nat} (ht : P.underlying t = some (.slice el)) (hi : P.info? el = some inf) (hz : inf.zero = some z) (hzs : z.cells.size = size) (hsz : inf.size = size) (h0 : 0 < size) (hb : inf.bytes ≤ 4096)
  {v xv : Value} {xs us : List Value} (hv : RowO B w el size v n xs) (hx : SrcV w size xv m us) (hus : ∀ u ∈ us, u.oneCell' = true) (hC : n + m ≤ capK P el) (hB : B ≤ w.heap.size) :
  ∃ v' w', (Builtin.append_ #[t, t] ty #[v, xv]).run P w = .ok v' w' ∧ RowO B w' el size v' (n + m) (xs ++ us) ∧ Below B w w' ∧ (∀ g, g < w.heap.size → rowBlk v ≠ some g → w'.heap[g]? = w.heap[g]?) ∧ (∀ g, rowBlk v' = some g → rowBlk v = some g ∨ w.heap.size ≤ g) := by
 rcases hv with ⟨rfl, rfl, a, rfl⟩ | ⟨g, pre, cap, rest, rfl, hcap, hBg, ho, h1, h2, h3, h4⟩
 ·obtain ⟨v', w', hr, h5, h6, h7, h8, _⟩ := run_app (P := P) (ty := ty) ht hi hz hzs hsz h0 hb (v := .slice a 0 0) (.inl ⟨rfl, rfl, a, rfl⟩) hx hus hC hB
  exact ⟨v', w', hr, h5.toO, h6, h7, h8⟩
 ·obtain ⟨hul, ad, xcap, rfl, hsrc⟩ := hx
  obtain ⟨hbytes, hK⟩ := capK_le hi hC
  have hmax : n + m ≤ maxLen := by unfold maxLen; omega
  rcases Nat.eq_zero_or_pos m with hm | hm
  ·subst hm
   obtain rfl : us = [] := List.length_eq_zero_iff.1 (by omega)
   refine ⟨.slice (some ⟨g, pre.length, none⟩) n cap, w, ?_, by rw [List.append_nil, Nat.add_zero]; exact .inr ⟨g, pre, cap, rest, rfl, hcap, hBg, ho, h1, h2, h3, h4⟩, Below.refl _ _, fun _ _ _ => rfl, fun g hg => .inl hg⟩
   cases ad <;> simp [Builtin.append_, run_underlying ht, sizeOf, typeInfo, hi, Builtin.lenOf, Builtin.firstCells, h1, storeCells, loadCells, loadCellsFrom]
  ·obtain ⟨b, off, rfl, hcell⟩ := hsrc hm
   have hnews : ∀ j u, us[j]? = some u → w.cell? ((⟨b, off, none⟩ : Addr).add j) = some u := fun j u hj => by rw [addr_add']; exact hcell j u hj
   by_cases hroom : n + m ≤ cap
   ·have hcsz : (pre ++ xs ++ rest).toArray.size = pre.length + cap * size := by
     rw [List.append_assoc]; simpa using h4
    have hmul : (n + m) * size ≤ cap * size := Nat.mul_le_mul_right _ hroom
    rw [Nat.add_mul] at hmul
    have hfit : pre.length + n * inf.size + us.length ≤ (pre ++ xs ++ rest).toArray.size := by rw [hul, hcsz, hsz]; omega
    obtain ⟨fr, ho, hfr⟩ := ho
    have hr := run_append_roomO (P := P) w t ty el inf ht hi g pre.length n cap (pre ++ xs ++ rest).toArray fr ho (hfr.imp id fun h => by simpa using h.2) ⟨b, off, none⟩ m xcap us (by rw [hul, hsz]) hnews hus hroom hfit
    refine ⟨_, _, hr, ?_, ⟨rfl, rfl, rfl, by simp, fun k hk => setRow_other _ _ _ _ (by omega)⟩, fun g' _ hne => setRow_other _ _ _ _ (fun e => hne ?_), fun g' hg' => .inl ?_⟩
    ·refine .inr ⟨g, pre, cap, rest.drop us.length, rfl, hcap, hBg, ?_, hroom, h2, by rw [List.length_append, h3, hul, Nat.add_mul], ?_⟩
     ·have hfr2 : fr = (0, 0) ∨ (el = 5 ∧ (pre ++ (xs ++ us) ++ rest.drop us.length).length ≤ fr.1) := hfr.imp id fun h => by
       refine ⟨h.1, ?_⟩
       have h := h.2
       simp only [List.length_append, List.length_drop] at h h4 ⊢
       omega
      refine ⟨fr, ?_, hfr2⟩
      rw [setRow_heap w g _ _ el fr ho]
      congr 2
      have e1 : pre.length + n * inf.size = (pre ++ xs).length := by rw [List.length_append, h3, hsz]
      simp only [e1]
      rw [List.take_left, ← List.drop_drop, List.drop_left]
      simp [List.append_assoc]
     ·simp only [List.length_append, List.length_drop] at h4 ⊢
      omega
    ·subst e
     cases cap with
     | zero => omega
     | succ k => rfl
    ·cases cap with
     | zero => omega
     | succ k => simp [rowBlk] at hg' ⊢; exact hg'
   ·have holds : ∀ j u, xs[j]? = some u → w.cell? ((⟨g, pre.length, none⟩ : Addr).add j) = some u := fun j u hj => by
     rw [addr_add']
     exact ho.cell (by rw [List.getElem?_append_right (by omega), Nat.add_sub_cancel_left]; exact hj)
    have hr := run_append_grow (P := P) w t ty el inf z ht hi hz ⟨g, pre.length, none⟩ n cap xs (by rw [h3, hsz]) holds ⟨b, off, none⟩ m xcap us (by rw [hul, hsz]) hnews (by omega) (by omega) (growslice_fits (by omega) hbytes)
    have hge := grownCap_ge w (n + m) cap el
    have hcm := grownCap_le_maxLen w (n + m) cap el hmax
    have hlen : (xs ++ us).length = (n + m) * size := by rw [List.length_append, h3, hul, Nat.add_mul]
    refine ⟨_, _, hr, ?_, ((Below.refl B w).drew).alloc hB _, fun g hg _ => Below.heap_alloc w.drew _ g hg, fun g hg => .inr ?_⟩
    ·refine .inr ⟨w.heap.size, [], grownCap w (n + m) cap el, (Builtin.zeroCells z.cells (grownCap w (n + m) cap el - (n + m))).toList, rfl, by omega, hB, ?_, hge, hcm, hlen, ?_⟩
     ·refine ⟨(0, 0), ?_, .inl rfl⟩
      rw [show w.heap.size = w.drew.heap.size from rfl, alloc_new]
      congr 2
      apply Array.ext'
      simp
     ·rw [List.length_append, hlen]
      simp only [Array.length_toList, zcells_size, hzs, ← Nat.add_mul]
      congr 1
      omega
    ·generalize grownCap w (n + m) cap el = gc at hg
     cases gc with
     | zero => simp [rowBlk] at hg
     | succ k => simp [rowBlk] at hg; omega
theorem RowO.src {B : Nat} {w : World} {t : TypeId} {size : Nat} {v : Value} {n : Nat} {cs : List Value} (h : RowO B w t size v n cs) : SrcV w size v n cs := by
 rcases h with ⟨rfl, rfl, a, rfl⟩ | ⟨g, pre, cap, rest, rfl, hc, hB, ho, h1, h2, h3, _⟩
 ·exact ⟨by simp, a, 0, rfl, fun h => by omega⟩
 ·exact ⟨h3, _, cap, rfl, fun _ => ⟨g, pre.length, rfl, fun i u hi => ho.cell (by rw [List.getElem?_append_right (by omega), Nat.add_sub_cancel_left]; exact hi)⟩⟩
def newPart (mem : List Blk) (e : Sh) (ax : AV) : Option (List e.T × Option (Bool × AV)) :=
 match srcL mem e ax with
 | some l' => some (l', none)
 | none =>
  match ax with
  | .row q =>
   match lk mem q with
   | .rowl _ e' [] (some (true, c)) => if e'.size = e.size then some ([], some (true, c)) else none
   | _ => none
  | _ => none
theorem newPart_ok {B : Nat} {w : World} {G : Gh} {mem : List Blk} (hm : MemR B w G mem) {e : Sh} {ax : AV} {l' : List e.T} {x' : Option (Bool × AV)} {v : Value} (h : newPart mem e ax = some (l', x')) (hv : ValR w G ax v) :
  ∃ c1 c2, SrcV w e.size v (l'.length + lstN x') (c1 ++ c2) ∧ CatR (ShR w G.fz e) l' c1 ∧ LstR w G x' c2 ∧ (∀ u ∈ c1 ++ c2, u.oneCell' = true) ∧ (∀ r ∈ lstRefs x', ∃ i, r ∈ (lk mem i).refs) := by
 unfold newPart at h
 split at h
 ·rename_i l2 hsrc
  simp only [Option.some.injEq, Prod.mk.injEq] at h
  obtain ⟨rfl, rfl⟩ := h
  obtain ⟨us, h1, h2⟩ := srcL_ok hm hsrc hv
  exact ⟨us, [], by rw [List.append_nil]; exact h1, h2, rfl, by rw [List.append_nil]; exact CatR.one' e _ _ h2, fun r hr => by cases hr⟩
 ·rename_i hs0
  clear hs0
  split at h
  ·rename_i q
   split at h
   ·rename_i T e' c hlk
    split at h
    ·rename_i he
     simp only [Option.some.injEq, Prod.mk.injEq] at h
     obtain ⟨rfl, rfl⟩ := h
     have hb := hm.blk q
     rw [hlk] at hb
     obtain ⟨_, d1, d2, hrow, hcat, hx⟩ := hb
     obtain rfl : d1 = [] := hcat
     obtain ⟨e1, _⟩ := (show [v] = [G.rowv q] ∧ _ from hv)
     obtain rfl : v = G.rowv q := by simpa using e1
     rw [he] at hrow
     refine ⟨[], d2, hrow.src, rfl, hx, ?_, fun r hr => ⟨q, by rw [hlk]; exact hr⟩⟩
     rw [List.nil_append]
     exact CellsR.one c d2 (hx.1 rfl)
    ·cases h
   ·cases h
  ·cases h
def evAppL (P : Program) (ts : List AV) (mem : List Blk) (s x : Operand) (t : TypeId) : Option (Option Nat × Blk × Prop) :=
 match P.underlying t, ev ts s, ev ts x with
 | some (.slice el), some sv, some xv =>
  match dstL mem sv with
  | some (r, T, ⟨e, l⟩) =>
   match srcL mem e xv with
   | some l' => if T = el ∧ elemOk P el e = true then some (some r, .row el e (l ++ l'), l.length + l'.length ≤ capK P el) else none
   | none => none
  | none =>
  match sv with
  | .nilS =>
   match shOf P 12 el with
   | some e =>
    match srcL mem e xv with
    | some l' => if elemOk P el e = true then some (none, .row el e l', l'.length ≤ capK P el) else none
    | none => none
   | none => none
  | .row r =>
   match lk mem r with
   | .rowl T e l none =>
    match newPart mem e xv with
    | some (l', x') => if T = el ∧ elemOk P el e = true then some (some r, .rowl el e (l ++ l') x', l.length + (l'.length + lstN x') ≤ capK P el) else none
    | none => none
   | _ => none
  | _ => none
 | _, _, _ => none
theorem newPart_mono {mem mem' : List Blk} {e : Sh} {x : AV} {q : List e.T × Option (Bool × AV)} (h : newPart mem e x = some q) (hs : ∀ l, srcL mem e x = some l → srcL mem' e x = some l) (hs2 : srcL mem e x = none → ∀ r, x = .row r → (∃ T e' c, lk mem r = .rowl T e' [] (some (true, c))) → lk mem' r = lk mem r) : newPart mem' e x = some q := by
 unfold newPart at h ⊢
 split at h
 ·rename_i l' hsrc
  rw [hs l' hsrc]; exact h
 ·rename_i hn
  split at h
  ·rename_i q'
   split at h
   ·rename_i T e' c hlk
    have e1 := hs2 hn q' rfl ⟨T, e', c, hlk⟩
    have e2 : srcL mem' e (.row q') = none := by
     simp only [srcL, e1, hlk]
    rw [e2]
    simp only [e1, hlk]
    exact h
   ·cases h
  ·cases h
def killO (mem : List Blk) : Option Nat → List Blk
 | some r => mem.set r .dead
 | none => mem
theorem srcL_mono {mem mem' : List Blk} {e : Sh} {x : AV} {l : List e.T} (h : srcL mem e x = some l) (hm : ∀ i, lk mem i = lk mem' i ∨ lk mem i = .dead) : srcL mem' e x = some l := by
 cases x with
 | row r =>
  simp only [srcL] at h ⊢
  rcases hm r with h1 | h1
  ·rw [← h1]; exact h
  ·rw [h1] at h; cases h
 | sub r size lo n =>
  simp only [srcL] at h ⊢
  rcases hm r with h1 | h1
  ·rw [← h1]; exact h
  ·rw [h1] at h; cases h
 | _ => exact h
theorem dstL_mono {mem mem' : List Blk} {x : AV} {q : Nat × TypeId × (Σ e : Sh, List e.T)} (h : dstL mem x = some q) (hm : ∀ i, lk mem i = lk mem' i ∨ lk mem i = .dead) : dstL mem' x = some q := by
 unfold dstL at h ⊢
 split at h
 ·rename_i r
  rcases hm r with h1 | h1
  ·rw [← h1]; exact h
  ·rw [h1] at h; cases h
 ·rename_i r size n
  rcases hm r with h1 | h1
  ·rw [← h1]; exact h
  ·rw [h1] at h; cases h
 ·cases h
theorem evAppL_mono {P : Program} {ts : List AV} {mem mem' : List Blk} {s x : Operand} {t : TypeId} {r : Option Nat × Blk × Prop} (h : evAppL P ts mem s x t = some r) (hm : ∀ i, lk mem i = lk mem' i ∨ lk mem i = .dead) : evAppL P ts mem' s x t = some r := by
 unfold evAppL at h
 split at h
 ·rename_i el sv xv hut hs hx
  split at h
  ·rename_i r0 T e l hdst
   split at h
   ·rename_i l' hsrc
    unfold evAppL
    simp only [hut, hs, hx, dstL_mono hdst hm, srcL_mono hsrc hm]
    exact h
   ·cases h
  ·rename_i hdst
   split at h
   ·split at h
    ·rename_i e hsh
     split at h
     ·rename_i l' hsrc
      unfold evAppL
      simp only [hut, hs, hx, dstL, hsh, srcL_mono hsrc hm]
      exact h
     ·cases h
    ·cases h
   ·rename_i r
    split at h
    ·rename_i T e l hlk
     split at h
     ·rename_i l' x' hnp
      have hlk' : lk mem' r = .rowl T e l none := by
       rcases hm r with h1 | h1
       ·rw [← h1]; exact hlk
       ·rw [h1] at hlk; cases hlk
      have hnp' : newPart mem' e xv = some (l', x') := newPart_mono hnp (fun l hl => srcL_mono hl hm) (fun _ r2 _ ⟨T2, e2, c2, h2⟩ => by
       rcases hm r2 with h1 | h1
       ·exact h1.symm
       ·rw [h1] at h2; cases h2)
      have hd' : dstL mem' (.row r) = none := by simp only [dstL, hlk']
      unfold evAppL
      simp only [hut, hs, hx, hd', hlk', hnp']
      exact h
     ·cases h
    ·cases h
   ·cases h
 ·cases h
theorem evAppL_ok {P : Program} {o : Oper} {ts : List AV} {mem : List Blk} {s x : Operand} {t : TypeId} {old : Option Nat} {row : Blk} {C : Prop} (ho : o.op = .call { callee := .builtin .append, args := #[s, x], argTypes := #[t, t] }) (h : evAppL P ts mem s x t = some (old, row, C))
  (base : Nat) (B : Nat) (w : World) (G : Gh) (a : Act) (hC : C) (hm : MemR B w G mem) (ht : TmpsR w G ts a) (hrb : ∀ i r, r ∈ (lk mem i).refs → r ≠ base) (next : Act → World → Prop) (Q : Exit → Act → World → Prop)
  (hn : ∀ v w' G', Below B w w' → Keeps G.fz G'.fz w w' → (∀ i, i ≠ base → Agree G G' i) → G'.fz = G.fz → ValR w' G' (.row base) v → MemR B w' G' (memPut (killO mem old) base [row]) → next (a.put o.dst v) w') : o.wp P a w next Q := by
 unfold evAppL at h
 split at h
 ·rename_i el sv xv hut hs hx
  have go : ∀ (e : Sh) (n : Nat) (xs : List Value) (l0 l' : List e.T) (mem0 : List Blk) (ob : Option Nat), elemOk P el e = true → RowV B w el e.size (a.eval s) n xs → l0.length = n → CatR (ShR w G.fz e) l0 xs → srcL mem e xv = some l' → n + l'.length ≤ capK P el →
    (∀ i, lk mem0 i = lk mem i ∨ lk mem0 i = .dead) → rowBlk (a.eval s) = ob → (∀ i g, ob = some g → (lk mem0 i).live G i ≠ some g) → (∀ g, ob = some g → ¬ G.fz g) →
    killO mem old = mem0 → row = .row el e (l0 ++ l') → o.wp P a w next Q := by
   intro e n xs l0 l' mem0 ob hel hrow hl0 hcat0 hsrc hle hm0 hold hold1 hold2 hmem hrw
   obtain ⟨inf, z, hi, hz, h1, h2, h3, h4⟩ := elemOk_ok hel
   obtain ⟨us, hus, hcat⟩ := srcL_ok hm hsrc (ev_ok ht hx)
   obtain ⟨v', w', hr, hr1, hr2, hr3, hr4, _⟩ := run_app (P := P) (ty := o.type) hut hi hz h1 h2 h3 h4 hrow hus (CatR.one' e _ _ hcat) hle hm.base.1
   rw [hold] at hr3 hr4
   obtain ⟨G', g1, g2, g3, g4, g5⟩ := hm.newRowAt (l := l0 ++ l') base hm0 hold1 hold2 hrb hr2 hr3 (by rw [List.length_append, hl0]; exact hr1) hr4 (CatR.append hcat0 hcat)
   unfold Oper.wp
   have e1 : (execOp a.eval o).run P w = .ok (.value v') w' := by
    simp only [execOp, ho, resolve, Sem.run_bind, Sem.run_pure, Result.andThen_ok, invoke, builtin, List.map_toArray, List.map_cons, List.map_nil, hr]
   rw [e1]
   refine hn v' w' G' hr2 g2 g3 g5 ?_ (by rw [hmem, hrw]; exact g1)
   show [v'] = [G'.rowv base] ∧ _
   rw [g4]
   exact ⟨rfl, hr1.one⟩
  split at h
  ·rename_i r T e l hdst
   split at h
   ·rename_i l' hsrc
    split at h
    ·rename_i hcond
     obtain ⟨rfl, hel⟩ := hcond
     simp only [Option.some.injEq, Prod.mk.injEq] at h
     obtain ⟨rfl, rfl, rfl⟩ := h
     obtain ⟨cs, hrow, hcat, hlive, hnd, _⟩ := dstL_ok hm hdst (ev_ok ht hs)
     have hrl : r < mem.length := lk_lt hnd
     refine go e l.length cs l l' (mem.set r .dead) (rowBlk (a.eval s)) hel hrow rfl hcat hsrc hC (fun i => ?_) rfl (fun i g hg hi => ?_) (fun g hg => ?_) rfl rfl
     ·rw [lk_set]; split
      ·exact .inr rfl
      ·exact .inl rfl
     ·rw [lk_set] at hi
      split at hi
      ·cases hi
      ·rename_i hir
       exact hm.apart i r g (fun e => hir ⟨e, hrl⟩) hi (by rw [hlive]; exact hg)
     ·exact (hm.own r g (by rw [hlive]; exact hg)).2.2
    ·cases h
   ·cases h
  split at h
  ·split at h
   ·rename_i e hsh
    split at h
    ·rename_i l' hsrc
     split at h
     ·rename_i hel
      simp only [Option.some.injEq, Prod.mk.injEq] at h
      obtain ⟨rfl, rfl, rfl⟩ := h
      have e2 : a.eval s = .slice none 0 0 := by
       have : [a.eval s] = [Value.slice none 0 0] := ev_ok ht hs
       simpa using this
      exact go e 0 [] [] l' mem none hel (by rw [e2]; exact .inl ⟨rfl, rfl, none, rfl⟩) rfl rfl hsrc (by omega) (fun i => .inl rfl) (by rw [e2]; rfl) (fun i g hg => by cases hg) (fun g hg => by cases hg) rfl rfl
     ·cases h
    ·cases h
   ·cases h
  ·rename_i r hdn
   split at h
   ·rename_i T e l hlk
    split at h
    ·rename_i l' x' hnp
     split at h
     ·rename_i hc
      obtain ⟨rfl, hel⟩ := hc
      simp only [Option.some.injEq, Prod.mk.injEq] at h
      obtain ⟨rfl, rfl, rfl⟩ := h
      obtain ⟨inf, z, hi, hz, h1, h2, h3, h4⟩ := elemOk_ok hel
      obtain ⟨cs, hrow, hcat, _, hlive, hnd⟩ := rowD_ok (T := T) (e := e) (l := l) hm (show rowD mem r = some (T, ⟨e, l⟩) by simp only [rowD, hlk])
      have hrl : r < mem.length := lk_lt hnd
      obtain ⟨e1, _⟩ := (show [a.eval s] = [G.rowv r] ∧ _ from ev_ok ht hs)
      have es : a.eval s = G.rowv r := by simpa using e1
      obtain ⟨c1, c2, hsrc, hcat2, hlst, hone, hxr⟩ := newPart_ok hm hnp (ev_ok ht hx)
      obtain ⟨v', w', hr, hr1, hr2, hr3, hr4⟩ := run_appO (P := P) (ty := o.type) hut hi hz h1 h2 h3 h4 hrow hsrc hone hC hm.base.1
      obtain ⟨G', g1, g2, g3, g4, g5⟩ := hm.newBlkAt (mem0 := mem.set r .dead) (x := .rowl T e (l ++ l') x') (v' := v') (old := rowBlk (G.rowv r)) base (fun i => by
        rw [lk_set]; split
        ·exact .inr rfl
        ·exact .inl rfl) (fun i g hg hi => by
        rw [lk_set] at hi
        split at hi
        ·cases hi
        ·rename_i hir
         exact hm.apart i r g (fun e => hir ⟨e, hrl⟩) hi (by rw [hlive]; exact hg)) (fun g hg => (hm.own r g (by rw [hlive]; exact hg)).2.2) hrb hr2 hr3 hr4 (fun g hg => hr1.blk hg) (fun G' f1 f2 f3 f4 f5 => by
        refine ⟨⟨by rw [f2, f3]; exact rowAt_self hr1, cs ++ c1, c2, ?_, ?_, ?_⟩, by show rowBlk (G'.rowv base) = _; rw [f2]⟩
        ·rw [f2, List.length_append, Nat.add_assoc, List.append_assoc]; exact hr1
        ·exact CatR.append (CatR.mono (fun y c hy => ShR.keep f5 e y c hy) _ _ hcat) (CatR.mono (fun y c hy => ShR.keep f5 e y c hy) _ _ hcat2)
        ·refine LstR.keep f5 x' c2 (fun q hq => f4 q ?_) hlst
         obtain ⟨j, hj⟩ := hxr q hq
         exact hrb j q hj)
      have e2 : (execOp a.eval o).run P w = .ok (.value v') w' := by
       simp only [execOp, ho, resolve, Sem.run_bind, Sem.run_pure, Result.andThen_ok, invoke, builtin, List.map_toArray, List.map_cons, List.map_nil, es, hr]
      unfold Oper.wp
      rw [e2]
      refine hn v' w' G' hr2 g2 g3 g5 ?_ g1
      show [v'] = [G'.rowv base] ∧ _
      rw [g4]
      exact ⟨rfl, hr1.one⟩
     ·cases h
    ·cases h
   ·cases h
  ·cases h
 ·cases h
end Go.Proofs.YtghbnolfadnoaaaGreat
