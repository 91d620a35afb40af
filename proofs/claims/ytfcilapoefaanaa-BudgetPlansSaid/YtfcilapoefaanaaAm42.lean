/- A machine of values, part 42: a function that writes a row of the caller's, from its code. -/
import Derived.Test.YtfcilapoefaanaaAm30
namespace Go.Proofs.Ytfcilapoefaanaa
open Go Go.RowKit
set_option linter.unusedVariables false

def MA.av {e : Sh} : MA e → Option AV
  | .int k n => some (.int k n)
  | .src _ => none
  | .fn g => some (.fn g .nil)
  | .clo g a => some (.fn g a)
def maAVs {e : Sh} : List (MA e) → Option (List AV)
  | [] => some []
  | m :: l =>
    match m.av, maAVs l with
    | some a, some avs => some (a :: avs)
    | _, _ => none
theorem MA.av_ok {w : World} {fz fz' : Nat → Prop} {ob : Option Nat} {e : Sh} {m : MA e} {v : Value} {a : AV} (h : m.av = some a) (hm : MAR w fz ob e m v) (hz : ∀ b, fz b → fz' b) (G : Gh) (hG : G.fz = fz') : a.refs = [] ∧ notTup a = true ∧ ValR w G a v := by
  cases m with
  | int k n =>
    simp only [MA.av, Option.some.injEq] at h; subst h
    obtain rfl : v = .int k n := hm
    exact ⟨rfl, rfl, rfl⟩
  | src l => cases h
  | fn g =>
    simp only [MA.av, Option.some.injEq] at h; subst h
    obtain rfl : v = .func (.func g) #[] #[] := hm
    exact ⟨rfl, rfl, [], rfl, rfl⟩
  | clo g b =>
    simp only [MA.av, Option.some.injEq] at h; subst h
    obtain ⟨hr, vs, rfl, hc⟩ := hm
    refine ⟨hr, rfl, vs, rfl, ?_⟩
    refine CellsR.keep (w := w) (w' := w) (G := G0 fz) (G' := G) ⟨Nat.le_refl _, fun _ _ _ => rfl, fun b h => by rw [hG]; exact hz b h⟩ b vs (fun r hr' => by rw [hr] at hr'; cases hr') hc
theorem maAVs_ok {w : World} {fz fz' : Nat → Prop} {ob : Option Nat} {e : Sh} (hz : ∀ b, fz b → fz' b) (G : Gh) (hG : G.fz = fz') : ∀ (ms : List (MA e)) (avs : List AV) (vs : List Value), maAVs ms = some avs → MARs w fz ob e ms vs →
    avs.length = vs.length ∧ ∀ t, t < avs.length → (avs.getD t .unk).refs = [] ∧ ValR w G (avs.getD t .unk) (vs.getD t undef)
  | [], avs, vs, h, hv => by
    simp only [maAVs, Option.some.injEq] at h; subst h
    obtain rfl : vs = [] := hv
    exact ⟨rfl, fun t ht => by simp at ht⟩
  | m :: l, avs, vs, h, hv => by
    simp only [maAVs] at h
    split at h
    · rename_i a avs' ha hl
      simp only [Option.some.injEq] at h; subst h
      obtain ⟨v, t', rfl, h1, h2⟩ := hv
      obtain ⟨k1, k2⟩ := maAVs_ok hz G hG l avs' t' hl h2
      obtain ⟨j1, _, j2⟩ := MA.av_ok ha h1 hz G hG
      refine ⟨by simp [k1], fun t ht => ?_⟩
      cases t with
      | zero => exact ⟨j1, j2⟩
      | succ t => exact k2 t (by simpa using ht)
    · cases h
/-- the end of a function that has written the row -/
def FinX (P : Program) (fn : Func) (w0 : World) (fz0 : Nat → Prop) (v : Value) (T : TypeId) (e : Sh) (l' : List e.T) : Exit → Act → World → Prop :=
  bodyPost P fn fun x w' => ∃ u, x = .returned u ∧ (∃ cs', RowV w0.drawn w' T e.size v l'.length cs' ∧ ∃ fz, CatR (ShR w' fz e) l' cs') ∧ Below w0.drawn w0 w' ∧ ∀ b, fz0 b → b < w0.heap.size → w'.heap[b]? = w0.heap[b]?
/-- the state at the end: the row that the caller's slice names holds this -/
def fxRow (mem : List Blk) (j : Nat) (a0 : Act) (T : TypeId) (e : Sh) (l' : List e.T) : Prop := ∃ r, lk mem j = .sav [.row r] a0 ∧ lk mem r = .row T e l'
theorem fx_core {P : Program} {fn : Func} {w0 : World} {fz0 : Nat → Prop} {st : St} {T : TypeId} {e : Sh} {l' : List e.T} {a0 : Act} {x : AV} {C : Prop} (j r : Nat) (hC : C) (hres : evRes P st.1 st.2 fn.results.toList = some (x, C)) (hj : lk st.2 j = .sav [.row r] a0) (hr : lk st.2 r = .row T e l')
    (G : Gh) (a : Act) (w : World) (hs : StR w0.drawn w0 fz0 st.1 st.2 G a w) : a.defers = [] ∧ ∃ v, (results fn a.tmps).run P w = .ok v w ∧ ∃ u, Ending.returned v = .returned u ∧ (∃ cs', RowV w0.drawn w T e.size (a0.tmps.getD 0 undef) l'.length cs' ∧ ∃ fz, CatR (ShR w fz e) l' cs') ∧ Below w0.drawn w0 w ∧ ∀ b, fz0 b → b < w0.heap.size → w.heap[b]? = w0.heap[b]? := by
  obtain ⟨v, h1, h2⟩ := evRes_ok hres hC hs.mem hs.tmps
  refine ⟨hs.defers, v, h1, v, rfl, ?_, hs.below, hs.fz2.2⟩
  have hbj := hs.mem.blk j
  rw [hj] at hbj
  have hv : a0.tmps.getD 0 undef = G.rowv r := by
    have := hbj
    have ht : TmpsR w G [.row r] a0 := this.1
    have h0 := ht.val 0
    obtain ⟨e1, _⟩ := (show [a0.tmps.getD 0 undef] = [G.rowv r] ∧ _ from h0)
    simpa using e1
  have hbr := hs.mem.blk r
  rw [hr] at hbr
  obtain ⟨_, cs, hrow, hcat⟩ := hbr
  rw [hv]
  exact ⟨cs, hrow, _, hcat⟩
theorem XS.fx {P : Program} {fn : Func} {w0 : World} {fz0 : Nat → Prop} {st : St} {T : TypeId} {e : Sh} {l' : List e.T} {a0 : Act} {x : AV} {C : Prop} (j r : Nat) (hC : C) (hres : evRes P st.1 st.2 fn.results.toList = some (x, C)) (hj : lk st.2 j = .sav [.row r] a0) (hr : lk st.2 r = .row T e l') : XS P w0 fz0 .ret st (FinX P fn w0 fz0 (a0.tmps.getD 0 undef) T e l') :=
  fun G a w hs => fx_core j r hC hres hj hr G a w hs
theorem XS.fxN {P : Program} {fn : Func} {w0 : World} {fz0 : Nat → Prop} {st : St} {T : TypeId} {e : Sh} {l' : List e.T} {a0 : Act} {x : AV} {C : Prop} (j r : Nat) (hC : C) (hres : evRes P st.1 st.2 fn.results.toList = some (x, C)) (hj : lk st.2 j = .sav [.row r] a0) (hr : lk st.2 r = .row T e l') : XS P w0 fz0 .normal st (FinX P fn w0 fz0 (a0.tmps.getD 0 undef) T e l') :=
  fun G a w hs => fx_core j r hC hres hj hr G a w hs
theorem FxC.mkS {P : Program} {f : Nat} {fn : Func} {c : Code} {T : TypeId} {e : Sh} {l l' : List e.T} {ms : List (MA e)} {avs : List AV} (hf : P.funcs[f]? = some fn) (hb : fn.body = some c) (hnv : e.noView = true) (hms : maAVs ms = some avs)
    (h : ∀ (w0 : World) (fz0 : Nat → Prop) (a0 : Act), (∀ b, fz0 b → b < w0.heap.size) → TS P w0 fz0 c (.row 0 :: avs ++ List.replicate (fn.ntmps - (avs.length + 1)) .unk, [.row T e l, .sav [.row 0] a0]) (FinX P fn w0 fz0 (a0.tmps.getD 0 undef) T e l')) : FxC P f T e l ms l' none := by
  intro B w fz v cs vs hbs hfz hnz hrow hcat hma
  let w0 : World := { w with drawn := B }
  let fz0 : Nat → Prop := fun b => b < w.heap.size ∧ rowBlk v ≠ some b
  let a0 : Act := { tmps := #[v], defers := [] }
  have hzz : ∀ b, fz b → fz0 b := fun b hb => ⟨hfz b hb, fun e => hnz b e hb⟩
  let G : Gh := ⟨fun i => if i = 0 then (match rowBlk v with | some g => ⟨g, 0, none⟩ | none => default) else default, fun i => if i = 0 then v else undef, fz0⟩
  obtain ⟨hlen, hav⟩ := maAVs_ok (fz' := fz0) (ob := rowBlk v) hzz G rfl ms avs vs hms hma
  have hone := hrow.one
  refine Calls.mono (R := fun x w' => ∃ u, x = .returned u ∧ (∃ cs', RowV w0.drawn w' T e.size (a0.tmps.getD 0 undef) l'.length cs' ∧ ∃ fz, CatR (ShR w' fz e) l' cs') ∧ Below w0.drawn w0 w' ∧ ∀ b, fz0 b → b < w0.heap.size → w'.heap[b]? = w0.heap[b]?) ?_ (fun x w' hx => ?_)
  rotate_left
  · obtain ⟨u, hu, ⟨cs', h1, fz', h2⟩, h3, h4⟩ := hx
    exact ⟨u, hu, ⟨cs', h1, CatR.mono (fun y c hy => ShR.refz e y c (.inl hnv) hy) _ _ h2⟩, ⟨h3.os, h3.tape, h3.output, h3.size, h3.block⟩, fun g hg hne => h4 g ⟨hg, hne⟩ hg, fun _ h => by cases h⟩
  refine calls_of_wp hf hb ?_
  have hlk : ∀ i, 2 ≤ i → lk [Blk.row T e l, Blk.sav [AV.row 0] a0] i = .dead := fun i hi => lk_big (by simpa using hi)
  have hlive : ∀ i x, (lk [Blk.row T e l, Blk.sav [AV.row 0] a0] i).live G i = some x → i = 0 ∧ rowBlk v = some x := by
    intro i x hx
    match i with
    | 0 => exact ⟨rfl, hx⟩
    | 1 => cases hx
    | i + 2 => rw [hlk _ (by omega)] at hx; cases hx
  have hrv : ValR w G (.row 0) v := ⟨rfl, hone⟩
  refine h w0 fz0 a0 (fun b hb => hb.1) G _ w ⟨fun t r hr' => ?_, fun i r hr' => ?_, ⟨?_, fun t => ?_⟩, ⟨fun i => ?_, fun i j x hij h1 h2 => ?_, fun i x h1 => ?_, fun b hb => hb.1, hbs⟩, ⟨rfl, rfl, rfl, Nat.le_refl _, fun _ _ => rfl⟩, rfl, fun _ h => h, fun _ h => .inl h, fun _ _ _ => rfl⟩
  · -- what the temporaries name
    cases t with
    | zero =>
      have : r ∈ (AV.row 0).refs := hr'
      simp only [AV.refs, List.mem_singleton] at this
      subst this; simp
    | succ t =>
      exfalso
      have hr2 : r ∈ ((avs ++ List.replicate (fn.ntmps - (avs.length + 1)) AV.unk).getD t .unk).refs := by simpa using hr'
      rw [List.getD_eq_getElem?_getD] at hr2
      rcases Nat.lt_or_ge t avs.length with h1 | h1
      · rw [List.getElem?_append_left h1] at hr2
        have := (hav t h1).1
        rw [List.getD_eq_getElem?_getD] at this
        rw [this] at hr2; cases hr2
      · rw [List.getElem?_append_right h1, List.getElem?_replicate] at hr2
        split at hr2 <;> simp [AV.refs] at hr2
  · match i with
    | 0 => cases hr'
    | 1 =>
      have : r ∈ (Blk.sav [AV.row 0] a0).refs := hr'
      have h0 : r = 0 := by simpa [Blk.refs, AV.refs] using this
      subst h0; simp
    | i + 2 => rw [hlk _ (by omega)] at hr'; cases hr'
  · simp [hlen]; omega
  · cases t with
    | zero =>
      have e0 : ((v :: vs).toArray ++ Array.replicate (fn.ntmps - (v :: vs).toArray.size) undef).getD 0 undef = v := by
        have h2 : 0 < (v :: vs).toArray.size := by simp
        simp only [Array.getD_eq_getD_getElem?, Array.getElem?_append_left h2]
        simp
      show ValR w G (.row 0) (((v :: vs).toArray ++ Array.replicate (fn.ntmps - (v :: vs).toArray.size) undef).getD 0 undef)
      rw [e0]; exact hrv
    | succ t =>
      have e1 : (AV.row 0 :: avs ++ List.replicate (fn.ntmps - (avs.length + 1)) AV.unk).getD (t + 1) .unk = (avs ++ List.replicate (fn.ntmps - (avs.length + 1)) AV.unk).getD t .unk := by simp
      rcases Nat.lt_or_ge t avs.length with h1 | h1
      · have e2 : ((v :: vs).toArray ++ Array.replicate (fn.ntmps - (v :: vs).toArray.size) undef).getD (t + 1) undef = vs.getD t undef := by
          have h2 : t + 1 < (v :: vs).toArray.size := by simp; omega
          simp only [Array.getD_eq_getD_getElem?, List.getD_eq_getElem?_getD, Array.getElem?_append_left h2]
          simp
        rw [e1, show (avs ++ List.replicate (fn.ntmps - (avs.length + 1)) AV.unk).getD t .unk = avs.getD t .unk by simp only [List.getD_eq_getElem?_getD, List.getElem?_append_left h1]]
        show ValR w G (avs.getD t .unk) (((v :: vs).toArray ++ Array.replicate (fn.ntmps - (v :: vs).toArray.size) undef).getD (t + 1) undef)
        rw [e2]
        exact (hav t h1).2
      · rw [e1]
        have e3 : (avs ++ List.replicate (fn.ntmps - (avs.length + 1)) AV.unk).getD t .unk = .unk := by
          simp only [List.getD_eq_getElem?_getD, List.getElem?_append_right h1, List.getElem?_replicate]
          split <;> rfl
        rw [e3]
        trivial
  · match i with
    | 0 =>
      refine ⟨fun g hg => ?_, cs, hrow, CatR.mono (fun y c hy => ShR.keep (fz := fz) ⟨Nat.le_refl _, fun _ _ _ => rfl, hzz⟩ e y c hy) _ _ hcat⟩
      have hg' : rowBlk v = some g := hg
      show (match rowBlk v with | some g => (⟨g, 0, none⟩ : Addr) | none => default) = _
      rw [hg']
    | 1 =>
      refine ⟨⟨rfl, fun t => ?_⟩, rfl⟩
      cases t with
      | zero => exact hrv
      | succ t => trivial
    | i + 2 => rw [hlk _ (by omega)]; trivial
  · obtain ⟨rfl, _⟩ := hlive i x h1
    obtain ⟨rfl, _⟩ := hlive j x h2
    exact absurd rfl hij
  · obtain ⟨rfl, hx⟩ := hlive i x h1
    have := hrow.blk hx
    exact ⟨this.1, this.2, fun hf => hf.2 hx⟩
end Go.Proofs.Ytfcilapoefaanaa
