/- A machine of values, part 24: nil slices as own empty rows, or as views of nothing; own rows given up: what different ways have in common. -/
import Derived.Test.YtbpjinefbnlenaaGreatDoorAm21
import Derived.Lib.SliceRun
namespace Go.Proofs.YtbpjinefbnlenaaGreatDoor
open Go Go.RowKit
set_option linter.unusedVariables false

/-- the nil slice at a place becomes what x says -/
def AV.nilTo (x : AV) : AV → List Bool → AV
  | .st a, p => .st (AV.nilTo x a p)
  | .cons a b, p =>
    match p with
    | false :: q => .cons (AV.nilTo x a q) b
    | true :: q => .cons a (AV.nilTo x b q)
    | [] => .cons a b
  | .pv c, p => .pv (AV.nilTo x c p)
  | .nilS, _ => x
  | a, _ => a
theorem nilTo_cells {w : World} {G G' : Gh} {x : AV} {n : Nat} (hk : Keeps G.fz G'.fz w w) (ha : ∀ r, r < n → Agree G G' r) (hx : CellsR w G' x [.slice none 0 0]) (a : AV) : ∀ (p : List Bool) (cs : List Value), (∀ r ∈ a.refs, r < n) → CellsR w G a cs → CellsR w G' (AV.nilTo x a p) cs := by
  induction a with
  | st a ih => intro p cs hr h; exact ih p cs hr h
  | cons a b iha ihb =>
    intro p cs hr h
    obtain ⟨c1, c2, e, h1, h2⟩ := h
    have ra : ∀ r ∈ a.refs, r < n := fun r hh => hr r (by simp [AV.refs, hh])
    have rb : ∀ r ∈ b.refs, r < n := fun r hh => hr r (by simp [AV.refs, hh])
    cases p with
    | nil => exact ⟨c1, c2, e, CellsR.keep hk a c1 (fun r hh => ha r (ra r hh)) h1, CellsR.keep hk b c2 (fun r hh => ha r (rb r hh)) h2⟩
    | cons y q =>
      cases y
      · exact ⟨c1, c2, e, iha q c1 ra h1, CellsR.keep hk b c2 (fun r hh => ha r (rb r hh)) h2⟩
      · exact ⟨c1, c2, e, CellsR.keep hk a c1 (fun r hh => ha r (ra r hh)) h1, ihb q c2 rb h2⟩
  | nilS =>
    intro p cs hr h
    have e : cs = [.slice none 0 0] := h
    rw [e]; exact hx
  | pv c ih =>
    intro p cs hr h
    obtain ⟨b, off, e, hf, hb, cells, hc, hcell⟩ := h
    exact ⟨b, off, e, hk.fz b hf, hb, cells, ih p cells hr hc, hcell⟩
  | _ => intro p cs hr h; exact CellsR.keep hk _ cs (fun r hh => ha r (hr r hh)) h
theorem nilTo_val {w : World} {G G' : Gh} {x : AV} {n : Nat} (hk : Keeps G.fz G'.fz w w) (ha : ∀ r, r < n → Agree G G' r) (hx : CellsR w G' x [.slice none 0 0]) (hxf : x.flat = true) (a : AV) (p : List Bool) (v : Value) (hr : ∀ r ∈ a.refs, r < n) (h : ValR w G a v) : ValR w G' (AV.nilTo x a p) v := by
  cases a with
  | st a => obtain ⟨cs, e, h1⟩ := h; exact ⟨cs, e, nilTo_cells hk ha hx a p _ hr h1⟩
  | cons a b =>
    have := nilTo_cells hk ha hx (.cons a b) p [v] hr h
    simp only [AV.nilTo] at this ⊢
    split at this <;> exact this
  | nilS =>
    have e : [v] = [Value.slice none 0 0] := h
    exact ValR_flat hxf (by rw [e]; exact hx)
  | pv c => exact nilTo_cells hk ha hx (.pv c) p [v] hr h
  | _ => exact ValR.keep hk _ v (fun r hh => ha r (hr r hh)) h
theorem nilTo_refs {x : AV} {r : Nat} (a : AV) : ∀ p, r ∈ (AV.nilTo x a p).refs → r ∈ x.refs ∨ r ∈ a.refs := by
  induction a with
  | st a ih => intro p h; exact ih p h
  | cons a b iha ihb =>
    intro p h
    cases p with
    | nil => exact .inr h
    | cons y q =>
      cases y
      · rcases List.mem_append.1 (show r ∈ (AV.nilTo x a q).refs ++ b.refs from h) with h | h
        · rcases iha q h with h | h
          · exact .inl h
          · exact .inr (List.mem_append.2 (.inl h))
        · exact .inr (List.mem_append.2 (.inr h))
      · rcases List.mem_append.1 (show r ∈ a.refs ++ (AV.nilTo x b q).refs from h) with h | h
        · exact .inr (List.mem_append.2 (.inl h))
        · rcases ihb q h with h | h
          · exact .inl h
          · exact .inr (List.mem_append.2 (.inr h))
  | nilS => intro p h; exact .inl h
  | pv c ih => intro p h; exact ih p h
  | _ => intro p h; exact .inr h
def Blk.nilTo (x : AV) (p : List Bool) : Blk → Blk
  | .box t c => .box t (AV.nilTo x c p)
  | .rowl t e l (some (z, c)) => .rowl t e l (some (z, AV.nilTo x c p))
  | b => b
/-- the place of a nil slice: in a temporary, or in a box -/
def putNil (x : AV) (box : Bool) (i : Nat) (p : List Bool) (st : St) : St :=
  match box with
  | false => (st.1.set i (AV.nilTo x (st.1.getD i .unk) p), st.2)
  | true => (st.1, st.2.set i (Blk.nilTo x p (lk st.2 i)))
/-- an own block's content, seen otherwise -/
theorem MemR.seen {B : Nat} {w : World} {G : Gh} {mem : List Blk} {i : Nat} {t : TypeId} {c c' : AV} (hm : MemR B w G mem) (hl : lk mem i = .box t c) (h : ∀ cs, CellsR w G c cs → CellsR w G c' cs) : MemR B w G (mem.set i (.box t c')) := by
  have hb := hm.blk i
  rw [hl] at hb
  obtain ⟨h0, cs, h1, h2⟩ := hb
  exact (hm.write (x := .box t c') (g := (G.addr i).block) (by rw [hl]; rfl) rfl (fun _ _ => rfl) ⟨h0, cs, h1, h cs h2⟩ rfl).1
theorem MemR.seenL {B : Nat} {w : World} {G : Gh} {mem : List Blk} {i : Nat} {t : TypeId} {e : Sh} {l : List e.T} {z : Bool} {c c' : AV} (hm : MemR B w G mem) (hl : lk mem i = .rowl t e l (some (z, c))) (h : ∀ cs, CellsR w G c cs → CellsR w G c' cs) : MemR B w G (mem.set i (.rowl t e l (some (z, c')))) := by
  have hb := hm.blk i
  rw [hl] at hb
  obtain ⟨h0, c1, c2, h1, h2, h3⟩ := hb
  have hnew : BlkR B w G i (.rowl t e l (some (z, c'))) := ⟨h0, c1, c2, h1, h2, fun hz => h c2 (h3.1 hz), h3.2⟩
  have hlv : ∀ j, (lk (mem.set i (.rowl t e l (some (z, c')))) j).live G j = (lk mem j).live G j := by
    intro j
    rw [lk_set]
    split
    · rename_i hh; obtain ⟨rfl, _⟩ := hh; rw [hl]; rfl
    · rfl
  refine ⟨fun j => ?_, fun j k x hjk hj hk => ?_, fun j x hj => ?_, hm.fz, hm.base⟩
  · rw [lk_set]
    split
    · rename_i hh; obtain ⟨rfl, _⟩ := hh; exact hnew
    · exact hm.blk j
  · rw [hlv] at hj hk; exact hm.apart j k x hjk hj hk
  · rw [hlv] at hj; exact hm.own j x hj
theorem getD_set {l : List AV} {i t : Nat} {x : AV} : (l.set i x).getD t .unk = if t = i ∧ i < l.length then x else l.getD t .unk := by
  simp only [List.getD_eq_getElem?_getD, List.getElem?_set]
  by_cases h : i = t
  · subst h
    by_cases hlt : i < l.length
    · simp [hlt]
    · simp [hlt]
  · have h' : ¬ t = i := fun e => h e.symm
    simp [h, h']
/-- the change of one place, when the ghosts know of it -/
theorem putNil_ok {B : Nat} {w0 : World} {fz0 : Nat → Prop} {st : St} {G : Gh} {a : Act} {w : World} {x : AV} (hs : StR B w0 fz0 st.1 st.2 G a w) (hx : CellsR w G x [.slice none 0 0]) (hxf : x.flat = true) (hxr : ∀ r ∈ x.refs, r < st.2.length) (box : Bool) (i : Nat) (p : List Bool) : StR B w0 fz0 (putNil x box i p st).1 (putNil x box i p st).2 G a w := by
  have hk : Keeps G.fz G.fz w w := ⟨Nat.le_refl _, fun _ _ _ => rfl, fun _ h => h⟩
  cases box with
  | false =>
    refine ⟨fun t r hr => ?_, hs.rm, ⟨by simp only [putNil, List.length_set]; exact hs.tmps.size, fun t => ?_⟩, hs.mem, hs.below, hs.defers, hs.fz1, hs.fz2⟩
    · simp only [putNil] at hr ⊢
      rw [getD_set] at hr
      split at hr
      · rcases nilTo_refs _ p hr with h | h
        · exact hxr r h
        · exact hs.rt i r h
      · exact hs.rt t r hr
    · simp only [putNil]
      rw [getD_set]
      split
      · rename_i h
        obtain ⟨rfl, _⟩ := h
        exact nilTo_val hk (fun _ _ => ⟨rfl, rfl⟩) hx hxf _ p _ (hs.rt t) (hs.tmps.val t)
      · exact hs.tmps.val t
  | true =>
    cases hb : lk st.2 i with
    | box t c =>
      have e : (putNil x true i p st) = (st.1, st.2.set i (.box t (AV.nilTo x c p))) := by simp only [putNil, hb, Blk.nilTo]
      rw [e]
      have hrc : ∀ r ∈ c.refs, r < st.2.length := fun r hr => hs.rm i r (by rw [hb]; exact hr)
      refine ⟨fun t r hr => by rw [List.length_set]; exact hs.rt t r hr, fun j r hr => ?_, hs.tmps, hs.mem.seen hb (fun cs h => nilTo_cells hk (fun _ _ => ⟨rfl, rfl⟩) hx c p cs hrc h), hs.below, hs.defers, hs.fz1, hs.fz2⟩
      rw [List.length_set]
      simp only [lk_set] at hr
      split at hr
      · rcases nilTo_refs c p hr with h | h
        · exact hxr r h
        · exact hrc r h
      · exact hs.rm j r hr
    | rowl t e0 l0 y =>
      rcases y with _ | ⟨z, c⟩
      · have e2 : ∀ j, lk (putNil x true i p st).2 j = lk st.2 j := by
          intro j
          simp only [putNil, hb, Blk.nilTo]
          rw [lk_set]
          split
          · rename_i h; rw [h.1, hb]
          · rfl
        have el : (putNil x true i p st).2.length = st.2.length := by simp [putNil]
        exact ⟨fun t r hr => by rw [el]; exact hs.rt t r hr, fun j r hr => by rw [el]; rw [e2] at hr; exact hs.rm j r hr, hs.tmps, hs.mem.congr (fun j => .inl (e2 j)), hs.below, hs.defers, hs.fz1, hs.fz2⟩
      · have e : (putNil x true i p st) = (st.1, st.2.set i (.rowl t e0 l0 (some (z, AV.nilTo x c p)))) := by simp only [putNil, hb, Blk.nilTo]
        rw [e]
        have hrc : ∀ r ∈ c.refs, r < st.2.length := fun r hr => hs.rm i r (by rw [hb]; exact hr)
        refine ⟨fun t r hr => by rw [List.length_set]; exact hs.rt t r hr, fun j r hr => ?_, hs.tmps, hs.mem.seenL hb (fun cs h => nilTo_cells hk (fun _ _ => ⟨rfl, rfl⟩) hx c p cs hrc h), hs.below, hs.defers, hs.fz1, hs.fz2⟩
        rw [List.length_set]
        simp only [lk_set] at hr
        split at hr
        · rcases nilTo_refs c p hr with h | h
          · exact hxr r h
          · exact hrc r h
        · exact hs.rm j r hr
    | _ =>
      have e : (putNil x true i p st).2 = st.2 ∨ True := .inr trivial
      have e2 : ∀ j, lk (putNil x true i p st).2 j = lk st.2 j := by
        intro j
        simp only [putNil, hb, Blk.nilTo]
        rw [lk_set]
        split
        · rename_i h; rw [h.1, hb]
        · rfl
      have el : (putNil x true i p st).2.length = st.2.length := by simp [putNil]
      exact ⟨fun t r hr => by rw [el]; exact hs.rt t r hr, fun j r hr => by rw [el]; rw [e2] at hr; exact hs.rm j r hr, hs.tmps, hs.mem.congr (fun j => .inl (e2 j)), hs.below, hs.defers, hs.fz1, hs.fz2⟩
/-- an interface value, known less exactly: of one type, or only as nil or not -/
def ifcTo (k : Option (TypeId × Sh)) : AV → AV
  | .opq b =>
    match k, b with
    | some (t, e), false => .ifc t e e.dflt false
    | _, _ => .opq b
  | .ifc t e x b =>
    match k with
    | none => .opq b
    | some _ => .ifc t e x b
  | a => a
def AV.atI (k : Option (TypeId × Sh)) : AV → List Bool → AV
  | .st a, p => .st (AV.atI k a p)
  | .tup a, p => .tup (AV.atI k a p)
  | .cons a b, p =>
    match p with
    | false :: q => .cons (AV.atI k a q) b
    | true :: q => .cons a (AV.atI k b q)
    | [] => .cons a b
  | .opq b, _ => ifcTo k (.opq b)
  | .ifc t e x b, _ => ifcTo k (.ifc t e x b)
  | a, _ => a
theorem ifcTo_cells {w : World} {G : Gh} (k : Option (TypeId × Sh)) (a : AV) (cs : List Value) (h : CellsR w G a cs) : CellsR w G (ifcTo k a) cs := by
  cases a with
  | opq b =>
    cases k with
    | none => exact h
    | some y =>
      obtain ⟨t, e⟩ := y
      cases b with
      | true => exact h
      | false => exact ⟨fun hh => (by cases hh), fun _ => h.2 rfl⟩
  | ifc t e x b =>
    cases k with
    | some _ => exact h
    | none =>
      refine ⟨fun hb => ?_, fun hb => h.2 hb⟩
      obtain ⟨v, h1, _⟩ := h.1 hb
      exact ⟨t, v, h1⟩
  | _ => exact h
theorem atI_cells {w : World} {G : Gh} (k : Option (TypeId × Sh)) (a : AV) : ∀ (p : List Bool) (cs : List Value), CellsR w G a cs → CellsR w G (AV.atI k a p) cs := by
  induction a with
  | st a ih => intro p cs h; exact ih p cs h
  | cons a b iha ihb =>
    intro p cs h
    obtain ⟨c1, c2, e, h1, h2⟩ := h
    cases p with
    | nil => exact ⟨c1, c2, e, h1, h2⟩
    | cons y q =>
      cases y
      · exact ⟨c1, c2, e, iha q c1 h1, h2⟩
      · exact ⟨c1, c2, e, h1, ihb q c2 h2⟩
  | opq b => intro p cs h; exact ifcTo_cells k _ cs h
  | ifc t e x b => intro p cs h; exact ifcTo_cells k _ cs h
  | tup a ih => intro p cs h; exact h.elim
  | _ => intro p cs h; exact h
theorem ifcTo_flat (k : Option (TypeId × Sh)) (b : Bool) : ∃ c, (ifcTo k (.opq b) = .opq c) ∨ ∃ t e x, ifcTo k (.opq b) = .ifc t e x c := by
  cases k with
  | none => exact ⟨b, .inl rfl⟩
  | some y =>
    obtain ⟨t, e⟩ := y
    cases b with
    | true => exact ⟨true, .inl rfl⟩
    | false => exact ⟨false, .inr ⟨t, e, e.dflt, rfl⟩⟩
theorem atI_val0 {w : World} {G : Gh} (k : Option (TypeId × Sh)) (a : AV) (p : List Bool) (v : Value) (h : ValR0 w G a v) : ValR0 w G (AV.atI k a p) v := by
  cases a with
  | st a => obtain ⟨cs, e, h1⟩ := h; exact ⟨cs, e, atI_cells k a p _ h1⟩
  | cons a b =>
    have := atI_cells k (.cons a b) p [v] h
    simp only [AV.atI] at this ⊢
    split at this <;> exact this
  | opq b =>
    have h1 := ifcTo_cells (w := w) (G := G) k (.opq b) [v] h
    show ValR0 w G (ifcTo k (.opq b)) v
    obtain ⟨c, h2 | ⟨t, e, x, h2⟩⟩ := ifcTo_flat k b
    · rw [h2] at h1 ⊢; exact h1
    · rw [h2] at h1 ⊢; exact h1
  | ifc t e x b =>
    have h1 := ifcTo_cells (w := w) (G := G) k (.ifc t e x b) [v] h
    show ValR0 w G (ifcTo k (.ifc t e x b)) v
    cases k <;> exact h1
  | tup a => exact h.elim
  | _ => exact h
theorem atI_vals {w : World} {G : Gh} (k : Option (TypeId × Sh)) : ∀ (a : AV) (p : List Bool) (vs : List Value), ValsR w G a vs → ValsR w G (AV.atI k a p) vs
  | .nil, p, vs, h => h
  | .cons a b, p, vs, h => by
    obtain ⟨v, t, e, h1, h2⟩ := h
    cases p with
    | nil => exact ⟨v, t, e, h1, h2⟩
    | cons y q =>
      cases y
      · exact ⟨v, t, e, atI_val0 k a q v h1, h2⟩
      · exact ⟨v, t, e, h1, atI_vals k b q t h2⟩
  | .unk, _, _, h | .int .., _, _, h | .bool .., _, _, h | .str .., _, _, h | .st .., _, _, h | .arr .., _, _, h | .sl .., _, _, h | .nilS, _, _, h | .row .., _, _, h | .ptr .., _, _, h | .slf .., _, _, h | .nilP, _, _, h | .fn .., _, _, h | .tup .., _, _, h | .emp, _, _, h | .pv .., _, _, h | .sub .., _, _, h | .mp .., _, _, h | .ifc .., _, _, h | .opq .., _, _, h => h.elim
theorem atI_val {w : World} {G : Gh} (k : Option (TypeId × Sh)) (a : AV) (p : List Bool) (v : Value) (h : ValR w G a v) : ValR w G (AV.atI k a p) v := by
  cases a with
  | st a => obtain ⟨cs, e, h1⟩ := h; exact ⟨cs, e, atI_cells k a p _ h1⟩
  | cons a b =>
    have := atI_cells k (.cons a b) p [v] h
    simp only [AV.atI] at this ⊢
    split at this <;> exact this
  | opq b =>
    have h1 := ifcTo_cells (w := w) (G := G) k (.opq b) [v] h
    show ValR w G (ifcTo k (.opq b)) v
    obtain ⟨c, h2 | ⟨t, e, x, h2⟩⟩ := ifcTo_flat k b
    · rw [h2] at h1 ⊢; exact h1
    · rw [h2] at h1 ⊢; exact h1
  | ifc t e x b =>
    have h1 := ifcTo_cells (w := w) (G := G) k (.ifc t e x b) [v] h
    show ValR w G (ifcTo k (.ifc t e x b)) v
    cases k <;> exact h1
  | tup a => obtain ⟨vs, e, h1⟩ := h; exact ⟨vs, e, atI_vals k a p _ h1⟩
  | _ => exact h
theorem ifcTo_refs (k : Option (TypeId × Sh)) (b : Bool) : (ifcTo k (.opq b)).refs = [] := by
  obtain ⟨c, h2 | ⟨t, e, x, h2⟩⟩ := ifcTo_flat k b <;> rw [h2] <;> rfl
theorem atI_refs {k : Option (TypeId × Sh)} {r : Nat} (a : AV) : ∀ p, r ∈ (AV.atI k a p).refs → r ∈ a.refs := by
  induction a with
  | st a ih => intro p h; exact ih p h
  | tup a ih => intro p h; exact ih p h
  | cons a b iha ihb =>
    intro p h
    cases p with
    | nil => exact h
    | cons y q =>
      cases y
      · rcases List.mem_append.1 (show r ∈ (AV.atI k a q).refs ++ b.refs from h) with h | h
        · exact List.mem_append.2 (.inl (iha q h))
        · exact List.mem_append.2 (.inr h)
      · rcases List.mem_append.1 (show r ∈ a.refs ++ (AV.atI k b q).refs from h) with h | h
        · exact List.mem_append.2 (.inl h)
        · exact List.mem_append.2 (.inr (ihb q h))
  | opq b =>
    intro p h
    have h' : r ∈ (ifcTo k (.opq b)).refs := h
    rw [ifcTo_refs] at h'; cases h'
  | ifc t e x b =>
    intro p h
    have h' : r ∈ (ifcTo k (.ifc t e x b)).refs := h
    cases k <;> cases h'
  | _ => intro p h; exact h
def Blk.atI (k : Option (TypeId × Sh)) (p : List Bool) : Blk → Blk
  | .box t c => .box t (AV.atI k c p)
  | b => b
def putI (k : Option (TypeId × Sh)) (box : Bool) (i : Nat) (p : List Bool) (st : St) : St :=
  match box with
  | false => (st.1.set i (AV.atI k (st.1.getD i .unk) p), st.2)
  | true => (st.1, st.2.set i (Blk.atI k p (lk st.2 i)))
theorem putI_ok {B : Nat} {w0 : World} {fz0 : Nat → Prop} {st : St} {G : Gh} {a : Act} {w : World} (hs : StR B w0 fz0 st.1 st.2 G a w) (k : Option (TypeId × Sh)) (box : Bool) (i : Nat) (p : List Bool) : StR B w0 fz0 (putI k box i p st).1 (putI k box i p st).2 G a w := by
  cases box with
  | false =>
    refine ⟨fun t r hr => ?_, hs.rm, ⟨by simp only [putI, List.length_set]; exact hs.tmps.size, fun t => ?_⟩, hs.mem, hs.below, hs.defers, hs.fz1, hs.fz2⟩
    · simp only [putI] at hr ⊢
      rw [getD_set] at hr
      split at hr
      · exact hs.rt i r (atI_refs _ p hr)
      · exact hs.rt t r hr
    · simp only [putI]
      rw [getD_set]
      split
      · rename_i h
        obtain ⟨rfl, _⟩ := h
        exact atI_val k _ p _ (hs.tmps.val t)
      · exact hs.tmps.val t
  | true =>
    cases hb : lk st.2 i with
    | box t c =>
      have e : (putI k true i p st) = (st.1, st.2.set i (.box t (AV.atI k c p))) := by simp only [putI, hb, Blk.atI]
      rw [e]
      have hrc : ∀ r ∈ c.refs, r < st.2.length := fun r hr => hs.rm i r (by rw [hb]; exact hr)
      refine ⟨fun t r hr => by rw [List.length_set]; exact hs.rt t r hr, fun j r hr => ?_, hs.tmps, hs.mem.seen hb (fun cs h => atI_cells k c p cs h), hs.below, hs.defers, hs.fz1, hs.fz2⟩
      rw [List.length_set]
      simp only [lk_set] at hr
      split at hr
      · exact hrc r (atI_refs c p hr)
      · exact hs.rm j r hr
    | _ =>
      have e2 : ∀ j, lk (putI k true i p st).2 j = lk st.2 j := by
        intro j
        simp only [putI, hb, Blk.atI]
        rw [lk_set]
        split
        · rename_i h; rw [h.1, hb]
        · rfl
      have el : (putI k true i p st).2.length = st.2.length := by simp [putI]
      exact ⟨fun t r hr => by rw [el]; exact hs.rt t r hr, fun j r hr => by rw [el]; rw [e2] at hr; exact hs.rm j r hr, hs.tmps, hs.mem.congr (fun j => .inl (e2 j)), hs.below, hs.defers, hs.fz1, hs.fz2⟩
/-- one more own row, of no elements -/
theorem addRow_ok {B : Nat} {w0 : World} {fz0 : Nat → Prop} {st : St} {G : Gh} {a : Act} {w : World} (hs : StR B w0 fz0 st.1 st.2 G a w) (T : TypeId) (e : Sh) :
    ∃ G', StR B w0 fz0 st.1 (st.2 ++ [.row T e []]) G' a w ∧ G'.rowv st.2.length = .slice none 0 0 := by
  let G' : Gh := { G with rowv := fun b => if b = st.2.length then .slice none 0 0 else G.rowv b }
  have hrow : G'.rowv st.2.length = .slice none 0 0 := by show (if st.2.length = st.2.length then _ else _) = _; rw [if_pos rfl]
  have hN : NewR w w G G' st.2.length [.row T e []] := by
    refine ⟨Below.refl _ _, fun i hi => ⟨rfl, ?_⟩, fun _ h => h, fun _ h => .inl h, fun j => ?_, fun j k x hjk h => ?_, fun j x h => ?_⟩
    · show (if i = st.2.length then _ else _) = _
      rw [if_neg (by simp at hi; omega)]
    · cases j with
      | zero =>
        refine ⟨fun g hg => ?_, [], .inl ⟨rfl, rfl, none, by rw [Nat.add_zero]; exact hrow⟩, rfl⟩
        rw [Nat.add_zero, hrow] at hg; cases hg
      | succ j => trivial
    · cases j with
      | zero => simp only [Nat.add_zero, lk, List.getD_cons_zero, Blk.live, hrow] at h; cases h
      | succ j => cases h
    · cases j with
      | zero => simp only [Nat.add_zero, lk, List.getD_cons_zero, Blk.live, hrow] at h; cases h
      | succ j => cases h
  have hm := hs.mem.more hN (fun i h1 _ => lk_big h1) (fun i r hr => .inl (hs.rm i r hr))
  rw [memPut_end] at hm
  refine ⟨G', ⟨fun t r hr => by have := hs.rt t r hr; simp; omega, fun i r hr => ?_, hs.tmps.keep hN.keeps (fun t r hr => hN.agree r (.inl (hs.rt t r hr))), hm, hs.below, hs.defers, hs.fz1, hs.fz2⟩, hrow⟩
  have hr' : r ∈ (lk (memPut st.2 st.2.length [.row T e []]) i).refs := by rw [memPut_end]; exact hr
  rw [lk_memPut] at hr'
  split at hr'
  · rename_i h
    have : i - st.2.length = 0 := by simp at h; omega
    rw [this] at hr'; cases hr'
  · have := hs.rm i r hr'; simp; omega
/-- one more own row, that is nil or has room -/
theorem addBuf_ok {B : Nat} {w0 : World} {fz0 : Nat → Prop} {st : St} {G : Gh} {a : Act} {w : World} (hs : StR B w0 fz0 st.1 st.2 G a w) (T : TypeId) (e : Sh) :
    ∃ G', StR B w0 fz0 st.1 (st.2 ++ [.bbuf T e []]) G' a w ∧ G'.rowv st.2.length = .slice none 0 0 := by
  obtain ⟨G', h1, h2⟩ := addRow_ok hs T e
  have k : ∀ (x : Blk) (i : Nat), lk (st.2 ++ [x]) i = if i = st.2.length then x else lk st.2 i := by
    intro x i
    rw [← memPut_end, lk_memPut]
    by_cases h : i = st.2.length
    · subst h; rw [if_pos (by simp), if_pos rfl, Nat.sub_self]; rfl
    · rw [if_neg (by simp; omega), if_neg h]
  refine ⟨G', ⟨fun t r hr => by have := h1.rt t r hr; simpa using this, fun i r hr => ?_, h1.tmps, ?_, h1.below, h1.defers, h1.fz1, h1.fz2⟩, h2⟩
  · rw [k] at hr
    split at hr
    · cases hr
    · have := hs.rm i r hr; simp; omega
  · exact h1.mem.swapB (r := st.2.length) (fun i hi => by rw [k, k, if_neg hi, if_neg hi]) (by rw [k, if_pos rfl]) (by rw [k, if_pos rfl]) (by rw [h2]; intro x n h; cases h)
/-- an own row is given up: a view for all -/
def AV.frz (r : Nat) (e : Sh) (l : List e.T) : AV → AV
  | .st a => .st (a.frz r e l)
  | .cons a b => .cons (a.frz r e l) (b.frz r e l)
  | .fn f c => .fn f (c.frz r e l)
  | .tup a => .tup (a.frz r e l)
  | .pv c => .pv (c.frz r e l)
  | .row k => if k = r then .sl e l else .row k
  | .sub k size lo n => if k = r then (if size = e.size then .sl e ((l.take (lo + n)).drop lo) else .unk) else .sub k size lo n
  | .ptr b p => if b = r then .unk else .ptr b p
  | .slf b z => if b = r then .unk else .slf b z
  | a => a
def Blk.frz (r : Nat) (e : Sh) (l : List e.T) : Blk → Blk
  | .box t c => .box t (c.frz r e l)
  | .sav ts a => .sav (ts.map (AV.frz r e l)) a
  | .rowl t e' l' (some (z, c)) => .rowl t e' l' (some (z, c.frz r e l))
  | b => b
section
variable {w : World} {G : Gh} {r : Nat} {e : Sh} {l : List e.T} {fz' : Nat → Prop}
theorem frz_cells (hk : Keeps G.fz fz' w w) (hrow : ShR w fz' (.sl e) l [G.rowv r]) (a : AV) : ∀ cs, CellsR w G a cs → CellsR w { G with fz := fz' } (a.frz r e l) cs := by
  induction a with
  | st a ih => intro cs h; exact ih cs h
  | cons a b iha ihb => intro cs h; obtain ⟨c1, c2, e, h1, h2⟩ := h; exact ⟨c1, c2, e, iha c1 h1, ihb c2 h2⟩
  | fn f c ih => intro cs h; obtain ⟨vs, e, h1⟩ := h; exact ⟨vs, e, ih vs h1⟩
  | tup a ih => intro cs h; exact h.elim
  | pv c ih => intro cs h; obtain ⟨b, off, e, hf, hb, cells, hc, hx⟩ := h; exact ⟨b, off, e, hk.fz b hf, hb, cells, ih cells hc, hx⟩
  | row k =>
    intro cs h
    simp only [AV.frz]
    split
    · rename_i hkr
      subst hkr
      obtain ⟨rfl, _⟩ := h
      exact hrow
    · exact h
  | sub k size lo n =>
    intro cs h
    simp only [AV.frz]
    obtain ⟨v, h1, h2⟩ := h
    split
    · rename_i hkr
      subst hkr
      split
      · rename_i hz
        subst hz
        rw [h1]
        exact hrow.subv h2
      · exact ⟨_, h1, h2.one⟩
    · exact ⟨v, h1, h2⟩
  | ptr b p =>
    intro cs h
    simp only [AV.frz]
    split
    · exact ⟨_, h, rfl⟩
    · exact h
  | slf b z =>
    intro cs h
    simp only [AV.frz]
    split
    · exact ⟨_, h, rfl⟩
    · exact h
  | _ => intro cs h; exact CellsR.keep (G := G) (G' := { G with fz := fz' }) hk _ cs (fun _ hh => ⟨rfl, rfl⟩) h
theorem frz_val0 (hk : Keeps G.fz fz' w w) (hrow : ShR w fz' (.sl e) l [G.rowv r]) (a : AV) (v : Value) (h : ValR0 w G a v) : ValR0 w { G with fz := fz' } (a.frz r e l) v := by
  cases a with
  | st a => obtain ⟨cs, e1, h1⟩ := h; exact ⟨cs, e1, frz_cells hk hrow a _ h1⟩
  | arr n e2 l2 => obtain ⟨cs, e1, h1⟩ := h; exact ⟨cs, e1, ShR.keep hk _ _ _ h1⟩
  | unk => trivial
  | row k =>
    have := frz_cells hk hrow (.row k) [v] h
    simp only [AV.frz] at this ⊢
    split at this
    · rename_i hh; rw [if_pos hh]; exact this
    · rename_i hh; rw [if_neg hh]; exact this
  | sub k size lo n =>
    have := frz_cells hk hrow (.sub k size lo n) [v] h
    simp only [AV.frz] at this ⊢
    split at this
    · rename_i hh
      rw [if_pos hh]
      split at this
      · rename_i hz; rw [if_pos hz]; exact this
      · rename_i hz; rw [if_neg hz]; trivial
    · rename_i hh; rw [if_neg hh]; exact this
  | ptr b p =>
    have := frz_cells hk hrow (.ptr b p) [v] h
    simp only [AV.frz] at this ⊢
    split at this
    · rename_i hh; rw [if_pos hh]; trivial
    · rename_i hh; rw [if_neg hh]; exact this
  | slf b z =>
    have := frz_cells hk hrow (.slf b z) [v] h
    simp only [AV.frz] at this ⊢
    split at this
    · rename_i hh; rw [if_pos hh]; trivial
    · rename_i hh; rw [if_neg hh]; exact this
  | _ => exact frz_cells hk hrow _ [v] h
theorem frz_vals (hk : Keeps G.fz fz' w w) (hrow : ShR w fz' (.sl e) l [G.rowv r]) : ∀ (a : AV) (vs : List Value), ValsR w G a vs → ValsR w { G with fz := fz' } (a.frz r e l) vs
  | .nil, vs, h => h
  | .cons a b, vs, h => by
    obtain ⟨v, t, e1, h1, h2⟩ := h
    exact ⟨v, t, e1, frz_val0 hk hrow a v h1, frz_vals hk hrow b t h2⟩
  | .unk, _, h | .int .., _, h | .bool .., _, h | .str .., _, h | .st .., _, h | .arr .., _, h | .sl .., _, h | .nilS, _, h | .row .., _, h | .ptr .., _, h | .slf .., _, h | .nilP, _, h | .fn .., _, h | .tup .., _, h | .emp, _, h | .pv .., _, h | .sub .., _, h | .mp .., _, h | .ifc .., _, h | .opq .., _, h => h.elim
theorem frz_notup (a : AV) (h : ∀ b, a ≠ .tup b) : ∀ b, a.frz r e l ≠ .tup b := by
  intro b
  cases a with
  | tup a => exact absurd rfl (h a)
  | row k => simp only [AV.frz]; split <;> (intro e; cases e)
  | sub k size lo n =>
    simp only [AV.frz]
    split
    · split <;> (intro e; cases e)
    · intro e; cases e
  | ptr b p => simp only [AV.frz]; split <;> (intro e; cases e)
  | slf b z => simp only [AV.frz]; split <;> (intro e; cases e)
  | _ => intro e; cases e
theorem frz_val (hk : Keeps G.fz fz' w w) (hrow : ShR w fz' (.sl e) l [G.rowv r]) (a : AV) (v : Value) (h : ValR w G a v) : ValR w { G with fz := fz' } (a.frz r e l) v := by
  cases a with
  | tup a => obtain ⟨vs, e1, h1⟩ := h; exact ⟨vs, e1, frz_vals hk hrow a _ h1⟩
  | _ => exact ValR.of0 (frz_val0 hk hrow _ v h) (frz_notup _ (by intro b e; cases e))
end
theorem frz_refs {r x : Nat} {e : Sh} {l : List e.T} (a : AV) : x ∈ (a.frz r e l).refs → x ∈ a.refs := by
  induction a with
  | st a ih => exact ih
  | cons a b iha ihb =>
    intro h
    rcases List.mem_append.1 (show x ∈ (a.frz r e l).refs ++ (b.frz r e l).refs from h) with h | h
    · exact List.mem_append.2 (.inl (iha h))
    · exact List.mem_append.2 (.inr (ihb h))
  | fn f c ih => exact ih
  | tup a ih => exact ih
  | pv c ih => exact ih
  | row k =>
    simp only [AV.frz]
    split
    · intro h; cases h
    · exact id
  | sub k size lo n =>
    simp only [AV.frz]
    split
    · split <;> (intro h; cases h)
    · exact id
  | ptr b p =>
    simp only [AV.frz]
    split
    · intro h; cases h
    · exact id
  | slf b z =>
    simp only [AV.frz]
    split
    · intro h; cases h
    · exact id
  | _ => exact id
def frzSt (r : Nat) (st : St) : St :=
  match lk st.2 r with
  | .row _ e l => (st.1.map (AV.frz r e l), (st.2.map (Blk.frz r e l)).set r .dead)
  | .rowl _ e l none => (st.1.map (AV.frz r e l), (st.2.map (Blk.frz r e l)).set r .dead)
  | _ => st
theorem frzSt_core {B : Nat} {w0 : World} {fz0 : Nat → Prop} {st : St} {G : Gh} {a : Act} {w : World} (hs : StR B w0 fz0 st.1 st.2 G a w) (r : Nat) (e : Sh) (l : List e.T) (hnd : lk st.2 r ≠ .dead)
    (hlive : ∀ g, rowBlk (G.rowv r) = some g → (lk st.2 r).live G r = some g) (hrow : ShR w (fun b => G.fz b ∨ rowBlk (G.rowv r) = some b) (.sl e) l [G.rowv r]) : ∃ G', StR B w0 fz0 (st.1.map (AV.frz r e l)) ((st.2.map (Blk.frz r e l)).set r .dead) G' a w := by
  let fz' : Nat → Prop := fun b => G.fz b ∨ rowBlk (G.rowv r) = some b
  have hk : Keeps G.fz fz' w w := ⟨Nat.le_refl _, fun _ _ _ => rfl, fun _ h => .inl h⟩
  have hlkm : ∀ i, lk ((st.2.map (Blk.frz r e l)).set r .dead) i = if i = r then .dead else (lk st.2 i).frz r e l := by
    intro i
    have em : ∀ j, lk (st.2.map (Blk.frz r e l)) j = (lk st.2 j).frz r e l := by
      intro j
      simp only [lk, List.getD_eq_getElem?_getD, List.getElem?_map]
      cases st.2[j]? <;> rfl
    rw [lk_set, em]
    by_cases hi : i = r
    · rw [if_pos hi]
      split
      · rfl
      · rename_i hh
        have : st.2.length ≤ i := by simp at hh; have := hh hi; omega
        rw [lk_big this]; rfl
    · rw [if_neg hi, if_neg (by simp [hi])]
  have hlv : ∀ i, i ≠ r → ((lk st.2 i).frz r e l).live { G with fz := fz' } i = (lk st.2 i).live G i := by
    intro i hi
    cases lk st.2 i with
    | rowl t e2 l2 x => rcases x with _ | ⟨z, c⟩ <;> rfl
    | _ => rfl
  refine ⟨{ G with fz := fz' }, ⟨fun t x hx => ?_, fun i x hx => ?_, ⟨by rw [List.length_map]; exact hs.tmps.size, fun t => ?_⟩, ⟨fun i => ?_, fun i j x hij hi hj => ?_, fun i x hi => ?_, fun b hb => ?_, hs.mem.base⟩, hs.below, hs.defers, fun b h => .inl (hs.fz1 b h), fun b hb => ?_, hs.fz2.2⟩⟩
  · rw [List.length_set, List.length_map]
    have e1 : (st.1.map (AV.frz r e l)).getD t .unk = (st.1.getD t .unk).frz r e l := by
      simp only [List.getD_eq_getElem?_getD, List.getElem?_map]
      cases st.1[t]? <;> rfl
    rw [e1] at hx
    exact hs.rt t x (frz_refs _ hx)
  · rw [List.length_set, List.length_map]
    rw [hlkm] at hx
    split at hx
    · cases hx
    · refine hs.rm i x ?_
      revert hx
      cases lk st.2 i with
      | box t c => exact fun h => frz_refs c h
      | sav ts a =>
        intro h
        obtain ⟨c, hc, hx'⟩ := List.mem_flatMap.1 (show x ∈ (ts.map (AV.frz r e l)).flatMap AV.refs from h)
        obtain ⟨c', hc', rfl⟩ := List.mem_map.1 hc
        exact List.mem_flatMap.2 ⟨c', hc', frz_refs c' hx'⟩
      | rowl t e2 l2 y =>
        rcases y with _ | ⟨z, c⟩
        · exact id
        · exact fun h => frz_refs c h
      | _ => exact id
  · have e1 : (st.1.map (AV.frz r e l)).getD t .unk = (st.1.getD t .unk).frz r e l := by
      simp only [List.getD_eq_getElem?_getD, List.getElem?_map]
      cases st.1[t]? <;> rfl
    rw [e1]
    exact frz_val hk hrow _ _ (hs.tmps.val t)
  · rw [hlkm]
    split
    · trivial
    · have hbi := hs.mem.blk i
      revert hbi
      cases lk st.2 i with
      | dead => exact fun _ => trivial
      | iter s p => exact id
      | map t k e2 l2 =>
        rintro ⟨es, clock, b1, b2⟩
        exact ⟨es, clock, b1, AllR.mono (fun x y hxy => EntR.keep (G := G) (G' := { G with fz := fz' }) hk hxy) _ _ b2⟩
      | box t c => exact fun ⟨h1, cs', h2, h3⟩ => ⟨h1, cs', h2, frz_cells hk hrow c cs' h3⟩
      | sav ts a =>
        rintro ⟨⟨h1, h2⟩, h3⟩
        refine ⟨⟨by rw [List.length_map]; exact h1, fun t => ?_⟩, h3⟩
        have e1 : (ts.map (AV.frz r e l)).getD t .unk = (ts.getD t .unk).frz r e l := by
          simp only [List.getD_eq_getElem?_getD, List.getElem?_map]
          cases ts[t]? <;> rfl
        rw [e1]
        exact frz_val hk hrow _ _ (h2 t)
      | row t e2 l2 => exact fun ⟨h1, cs', h2, h3⟩ => ⟨h1, cs', h2, CatR.mono (fun y c hy => ShR.keep hk e2 y c hy) _ _ h3⟩
      | bbuf t e2 l2 => exact fun ⟨⟨h1, cs', h2, h3⟩, h4⟩ => ⟨⟨h1, cs', h2, CatR.mono (fun y c hy => ShR.keep hk e2 y c hy) _ _ h3⟩, h4⟩
      | rowl t e2 l2 y =>
        rintro ⟨h1, d1, d2, h2, h3, h4⟩
        rcases y with _ | ⟨z, c⟩
        · exact ⟨h1, d1, d2, h2, CatR.mono (fun y c hy => ShR.keep hk e2 y c hy) _ _ h3, h4⟩
        · exact ⟨h1, d1, d2, h2, CatR.mono (fun y c hy => ShR.keep hk e2 y c hy) _ _ h3, fun hz => frz_cells hk hrow c d2 (h4.1 hz), h4.2⟩
  · rw [hlkm] at hi hj
    split at hi
    · cases hi
    · rename_i h1
      split at hj
      · cases hj
      · rename_i h2
        rw [hlv i h1] at hi
        rw [hlv j h2] at hj
        exact hs.mem.apart i j x hij hi hj
  · rw [hlkm] at hi
    split at hi
    · cases hi
    · rename_i h1
      rw [hlv i h1] at hi
      have := hs.mem.own i x hi
      refine ⟨this.1, this.2.1, fun hf => ?_⟩
      rcases hf with hf | hf
      · exact this.2.2 hf
      · exact hs.mem.apart i r x h1 hi (hlive x hf)
  · rcases hb with hb | hb
    · exact hs.mem.fz b hb
    · exact (hs.mem.own r b (hlive b hb)).2.1
  · rcases hb with hb | hb
    · exact hs.fz2.1 b hb
    · exact .inr (hs.mem.own r b (hlive b hb)).1
theorem frzSt_ok {B : Nat} {w0 : World} {fz0 : Nat → Prop} {st : St} {G : Gh} {a : Act} {w : World} (hs : StR B w0 fz0 st.1 st.2 G a w) (r : Nat) : ∃ G', StR B w0 fz0 (frzSt r st).1 (frzSt r st).2 G' a w := by
  unfold frzSt
  split
  · rename_i T e l hlk
    have hb := hs.mem.blk r
    rw [hlk] at hb
    obtain ⟨h0, cs, hrv, hcat⟩ := hb
    have hk : Keeps G.fz (fun b => G.fz b ∨ rowBlk (G.rowv r) = some b) w w := ⟨Nat.le_refl _, fun _ _ _ => rfl, fun _ h => .inl h⟩
    refine frzSt_core hs r e l (by rw [hlk]; exact fun h => by cases h) (fun g hg => by rw [hlk]; exact hg) ?_
    rcases hrv with ⟨hn, rfl, ad, hv⟩ | ⟨g, cap, rest, hv, hcap, hBg, hat, hnc, hcm, hcl, hcr⟩
    · rw [hv]
      refine ⟨ad, 0, by rw [hn], by omega, Nat.zero_le _, fun h => by omega⟩
    · refine ⟨some ⟨g, 0, none⟩, cap, by rw [hv], hnc, hcm, fun h0' => ⟨g, 0, cs, rfl, ?_, hat.lt, CatR.mono (fun y c hy => ShR.keep hk e y c hy) _ _ hcat, fun i v hi => ?_⟩⟩
      · right
        rw [hv]
        cases cap with
        | zero => omega
        | succ c => rfl
      · rw [Nat.zero_add]; exact hat.cell hi
  · rename_i T e l hlk
    have hb := hs.mem.blk r
    rw [hlk] at hb
    obtain ⟨h0, cs, c2, hrv, hcat, hx⟩ := hb
    obtain rfl : c2 = [] := hx
    rw [List.append_nil, show lstN none = 0 from rfl, Nat.add_zero] at hrv
    have hk : Keeps G.fz (fun b => G.fz b ∨ rowBlk (G.rowv r) = some b) w w := ⟨Nat.le_refl _, fun _ _ _ => rfl, fun _ h => .inl h⟩
    refine frzSt_core hs r e l (by rw [hlk]; exact fun h => by cases h) (fun g hg => by rw [hlk]; exact hg) ?_
    rcases hrv with ⟨hn, rfl, ad, hv⟩ | ⟨g, pre, cap, rest, hv, hcap, hBg, hat, hnc, hcm, hcl, hcr⟩
    · rw [hv]
      refine ⟨ad, 0, by rw [hn], by omega, Nat.zero_le _, fun h => by omega⟩
    · refine ⟨some ⟨g, pre.length, none⟩, cap, by rw [hv], hnc, hcm, fun h0' => ⟨g, pre.length, cs, rfl, ?_, hat.lt, CatR.mono (fun y c hy => ShR.keep hk e y c hy) _ _ hcat, fun i v hi => ?_⟩⟩
      · right
        rw [hv]
        cases cap with
        | zero => omega
        | succ c => rfl
      · exact hat.cell (by rw [List.getElem?_append_right (by omega), Nat.add_sub_cancel_left]; exact hi)
  · exact ⟨G, hs⟩
/-! the beginning of a row, as a row of its own -/
def AV.subAt (r : Nat) : AV → List Bool → Option (Nat × Nat)
  | .st a, p => AV.subAt r a p
  | .cons a b, p =>
    match p with
    | false :: q => AV.subAt r a q
    | true :: q => AV.subAt r b q
    | [] => none
  | .sub r' s lo n, p =>
    match p with
    | [] => if r' = r ∧ lo = 0 then some (s, n) else none
    | _ => none
  | _, _ => none
def AV.subTo (x : AV) : AV → List Bool → AV
  | .st a, p => .st (AV.subTo x a p)
  | .cons a b, p =>
    match p with
    | false :: q => .cons (AV.subTo x a q) b
    | true :: q => .cons a (AV.subTo x b q)
    | [] => .cons a b
  | .sub r s lo n, p =>
    match p with
    | [] => x
    | _ => .sub r s lo n
  | a, _ => a
theorem subTo_cells {w : World} {G : Gh} {r s n : Nat} (a : AV) : ∀ (p : List Bool) (cs : List Value), AV.subAt r a p = some (s, n) → CellsR w G a cs →
    ∃ v, SubR s 0 n (G.rowv r) v ∧ ∀ (x : AV) (G' : Gh), Keeps G.fz G'.fz w w → (∀ q ∈ a.refs, Agree G G' q) → CellsR w G' x [v] → CellsR w G' (AV.subTo x a p) cs := by
  induction a with
  | st a ih => intro p cs h hc; exact ih p cs h hc
  | cons a b iha ihb =>
    intro p cs h hc
    obtain ⟨c1, c2, rfl, h1, h2⟩ := hc
    cases p with
    | nil => cases h
    | cons d q =>
      cases d with
      | false =>
        obtain ⟨v, hv, hx⟩ := iha q c1 h h1
        exact ⟨v, hv, fun x G' hk hr h3 => ⟨c1, c2, rfl, hx x G' hk (fun q hq => hr q (by simp [AV.refs, hq])) h3, CellsR.keep hk b c2 (fun q hq => hr q (by simp [AV.refs, hq])) h2⟩⟩
      | true =>
        obtain ⟨v, hv, hx⟩ := ihb q c2 h h2
        exact ⟨v, hv, fun x G' hk hr h3 => ⟨c1, c2, rfl, CellsR.keep hk a c1 (fun q hq => hr q (by simp [AV.refs, hq])) h1, hx x G' hk (fun q hq => hr q (by simp [AV.refs, hq])) h3⟩⟩
  | sub r' s' lo n' =>
    intro p cs h hc
    cases p with
    | nil =>
      simp only [AV.subAt] at h
      split at h
      · rename_i hh
        obtain ⟨rfl, rfl⟩ := hh
        simp only [Option.some.injEq, Prod.mk.injEq] at h
        obtain ⟨rfl, rfl⟩ := h
        obtain ⟨v, rfl, hs⟩ := hc
        exact ⟨v, hs, fun x G' hk hr hx => hx⟩
      · cases h
    | cons d q => cases h
  | _ => intro p cs h hc; cases h
theorem subTo_refs {x : AV} {q : Nat} (a : AV) : ∀ p, q ∈ (AV.subTo x a p).refs → q ∈ x.refs ∨ q ∈ a.refs := by
  induction a with
  | st a ih => intro p h; exact ih p h
  | cons a b iha ihb =>
    intro p h
    cases p with
    | nil => exact .inr h
    | cons d p =>
      cases d with
      | false =>
        rcases List.mem_append.1 (show q ∈ (AV.subTo x a p).refs ++ b.refs from h) with h | h
        · rcases iha p h with h | h
          · exact .inl h
          · exact .inr (List.mem_append.2 (.inl h))
        · exact .inr (List.mem_append.2 (.inr h))
      | true =>
        rcases List.mem_append.1 (show q ∈ a.refs ++ (AV.subTo x b p).refs from h) with h | h
        · exact .inr (List.mem_append.2 (.inl h))
        · rcases ihb p h with h | h
          · exact .inl h
          · exact .inr (List.mem_append.2 (.inr h))
  | sub r s lo n =>
    intro p h
    cases p with
    | nil => exact .inl h
    | cons d p => exact .inr h
  | _ => intro p h; exact .inr h
theorem subTo_val {w : World} {G : Gh} {r s n : Nat} (a : AV) (p : List Bool) (v : Value) (h : AV.subAt r a p = some (s, n)) (hv : ValR w G a v) :
    ∃ u, SubR s 0 n (G.rowv r) u ∧ ∀ (k : Nat) (G' : Gh), Keeps G.fz G'.fz w w → (∀ q ∈ a.refs, Agree G G' q) → CellsR w G' (.row k) [u] → ValR w G' (AV.subTo (.row k) a p) v := by
  cases a with
  | st a =>
    obtain ⟨cs, e, h1⟩ := hv
    obtain ⟨u, hu, hx⟩ := subTo_cells a p cs.toList h h1
    exact ⟨u, hu, fun k G' hk hr h3 => ⟨cs, e, hx _ G' hk hr h3⟩⟩
  | sub r' s' lo n' =>
    cases p with
    | nil =>
      obtain ⟨u, hu, hx⟩ := subTo_cells (.sub r' s' lo n') [] [v] h hv
      exact ⟨u, hu, fun k G' hk hr h3 => hx _ G' hk hr h3⟩
    | cons d q => cases h
  | cons a b =>
    obtain ⟨u, hu, hx⟩ := subTo_cells (.cons a b) p [v] h hv
    refine ⟨u, hu, fun k G' hk hr h3 => ?_⟩
    have := hx _ G' hk hr h3
    cases p with
    | nil => exact this
    | cons d q => cases d <;> exact this
  | _ => cases h
def placeAV (box : Bool) (i : Nat) (st : St) : AV :=
  match box with
  | false => st.1.getD i .unk
  | true => match lk st.2 i with | .box _ c => c | _ => .unk
def cutSt (r : Nat) (box : Bool) (i : Nat) (p : List Bool) (st : St) : St :=
  match lk st.2 r, AV.subAt r (placeAV box i st) p with
  | .row T e l, some (s, n) =>
    if s = e.size ∧ r < st.2.length then
      match box with
      | false => (st.1.set i (AV.subTo (.row st.2.length) (st.1.getD i .unk) p), st.2.set r .dead ++ [.row T e (l.take n)])
      | true => match lk st.2 i with
        | .box t c => (st.1, (st.2.set r .dead).set i (.box t (AV.subTo (.row st.2.length) c p)) ++ [.row T e (l.take n)])
        | _ => st
    else st
  | _, _ => st
theorem cutSt_ok {B : Nat} {w0 : World} {fz0 : Nat → Prop} {st : St} {G : Gh} {a : Act} {w : World} (hs : StR B w0 fz0 st.1 st.2 G a w) (r : Nat) (box : Bool) (i : Nat) (p : List Bool) : ∃ G', StR B w0 fz0 (cutSt r box i p st).1 (cutSt r box i p st).2 G' a w := by
  unfold cutSt
  split
  · rename_i T e l s n hlk hat
    split
    · rename_i hc
      obtain ⟨rfl, hrl⟩ := hc
      have hrow := hs.mem.blk r
      rw [hlk] at hrow
      obtain ⟨hra, cs0, hrv, hcat⟩ := hrow
      -- with the new row's value
      have hlt : ∀ q, q < st.2.length → q ≠ st.2.length := fun q h => by omega
      have core : ∀ v, SubR e.size 0 n (G.rowv r) v → ∃ G' : Gh, Keeps G.fz G'.fz w w ∧ (∀ q, q < st.2.length → Agree G G' q) ∧ G'.fz = G.fz ∧ G'.rowv st.2.length = v ∧ MemR B w G' (st.2.set r .dead ++ [.row T e (l.take n)]) := by
        intro v hv
        obtain ⟨ad, N, cap, a', e1, hN, hcm, rfl, hle, ha⟩ := hv
        let G' : Gh := { G with rowv := fun b => if b = st.2.length then .slice a' n (cap - 0) else G.rowv b, addr := fun b => if b = st.2.length then G.addr r else G.addr b }
        have hag : ∀ q, q < st.2.length → Agree G G' q := fun q hq => ⟨by show (if q = st.2.length then _ else _) = _; rw [if_neg (hlt q hq)], by show (if q = st.2.length then _ else _) = _; rw [if_neg (hlt q hq)]⟩
        have hk : Keeps G.fz G'.fz w w := ⟨Nat.le_refl _, fun _ _ _ => rfl, fun _ h => h⟩
        have erow : G'.rowv st.2.length = .slice a' n (cap - 0) := by show (if st.2.length = st.2.length then _ else _) = _; rw [if_pos rfl]
        have eaddr : G'.addr st.2.length = G.addr r := by show (if st.2.length = st.2.length then _ else _) = _; rw [if_pos rfl]
        refine ⟨G', hk, hag, rfl, erow, ?_⟩
        have hlk' : ∀ j, lk (st.2.set r .dead ++ [.row T e (l.take n)]) j = if j = st.2.length then .row T e (l.take n) else if j = r then .dead else lk st.2 j := by
          intro j
          by_cases h1 : j = st.2.length
          · subst h1
            rw [if_pos rfl]
            simp only [lk, List.getD_eq_getElem?_getD]
            rw [List.getElem?_append_right (by simp)]
            simp
          · rw [if_neg h1]
            by_cases h2 : j < st.2.length
            · simp only [lk, List.getD_eq_getElem?_getD]
              rw [List.getElem?_append_left (by simpa using h2), List.getElem?_set]
              by_cases h3 : r = j
              · subst h3; simp [h2]
              · rw [if_neg h3, if_neg (fun e => h3 e.symm)]
            · rw [lk_big (by simp; omega)]
              split
              · rfl
              · exact (lk_big (by omega)).symm
        -- the new row's block is the old row's
        have hnb : ∀ g, rowBlk (.slice a' n (cap - 0)) = some g → rowBlk (G.rowv r) = some g := by
          intro g hg
          rw [e1]
          cases cap with
          | zero => simp [rowBlk] at hg
          | succ c =>
            rw [ha (by omega)] at hg
            cases ad with
            | none => simp [rowBlk] at hg
            | some b => simp [rowBlk, Addr.add] at hg ⊢; exact hg
        have hnew : BlkR B w G' st.2.length (.row T e (l.take n)) := by
          rcases hrv with ⟨hn0, hnil, ax, hval⟩ | ⟨g, cap2, rest, hval, hcap, hBg, ho, h1, h2, h3, h4⟩
          · rw [hval] at e1
            obtain ⟨rfl, rfl, rfl⟩ := Value.slice.inj e1
            obtain rfl : n = 0 := by omega
            refine ⟨fun g hg => ?_, [], .inl ⟨by simp, rfl, a', by rw [erow]⟩, by rw [List.take_zero]; rfl⟩
            rw [erow] at hg; simp [rowBlk] at hg
          · rw [hval] at e1
            obtain ⟨rfl, rfl, rfl⟩ := Value.slice.inj e1
            have hnl : n ≤ l.length := by omega
            have hcat2 := hcat
            rw [← List.take_append_drop n l] at hcat2
            obtain ⟨ca, cb, rfl, k1, k2⟩ := CatR.split hcat2
            have hla := CatR.length (fun y c hy => ShR.length e y c hy) _ _ k1
            have hltk : (l.take n).length = n := by rw [List.length_take]; omega
            have ha' : a' = some ⟨g, 0, none⟩ := by rw [ha (by omega)]; simp [Addr.add]
            refine ⟨fun g' hg' => ?_, ca, .inr ⟨g, cap2, cb ++ rest, ?_, hcap, hBg, ?_, by rw [hltk]; omega, h2, hla, ?_⟩, CatR.mono (fun y c hy => ShR.keep hk e y c hy) _ _ k1⟩
            · rw [erow] at hg'
              rw [eaddr]
              exact hra g' (hnb g' hg')
            · rw [erow, ha', hltk]; rfl
            · obtain ⟨fr, ho, hfr⟩ := ho
              refine ⟨fr, ?_, ?_⟩
              · rw [← List.append_assoc]; exact ho
              · rw [← List.append_assoc]; exact hfr
            · rw [← List.append_assoc]; exact h4
        have hlive : ∀ j x, (lk (st.2.set r .dead ++ [.row T e (l.take n)]) j).live G' j = some x → ∃ j', (lk st.2 j').live G j' = some x ∧ (j = st.2.length ∧ j' = r ∨ j ≠ st.2.length ∧ j' = j ∧ j ≠ r) := by
          intro j x hx
          rw [hlk'] at hx
          split at hx
          · rename_i hj
            subst hj
            refine ⟨r, ?_, .inl ⟨rfl, rfl⟩⟩
            rw [hlk]
            simp only [Blk.live, erow] at hx ⊢
            exact hnb x hx
          · rename_i hj
            split at hx
            · cases hx
            · rename_i hjr
              refine ⟨j, ?_, .inr ⟨hj, rfl, hjr⟩⟩
              have hjl : j < st.2.length := by
                rcases Nat.lt_or_ge j st.2.length with h | h
                · exact h
                · rw [lk_big h] at hx; cases hx
              rw [← live_agree (lk st.2 j) (hag j hjl)]
              exact hx
        refine ⟨fun j => ?_, fun j1 j2 x h12 hx1 hx2 => ?_, fun j x hx => ?_, hs.mem.fz, hs.mem.base⟩
        · rw [hlk']
          split
          · rename_i hj; subst hj; exact hnew
          · rename_i hj
            split
            · trivial
            · rcases Nat.lt_or_ge j st.2.length with h | h
              · exact (hs.mem.blk j).keep hk (hag j h) (fun q hq => hag q (hs.rm j q hq)) (Nat.le_refl _) (fun _ _ => rfl)
              · rw [lk_big h]; trivial
        · obtain ⟨i1, a1, b1⟩ := hlive j1 x hx1
          obtain ⟨i2, a2, b2⟩ := hlive j2 x hx2
          refine hs.mem.apart i1 i2 x ?_ a1 a2
          rcases b1 with ⟨c1, c2⟩ | ⟨c1, c2, c3⟩ <;> rcases b2 with ⟨d1, d2⟩ | ⟨d1, d2, d3⟩ <;> omega
        · obtain ⟨i1, a1, _⟩ := hlive j x hx
          exact hs.mem.own i1 x a1
      cases box with
      | false =>
        obtain ⟨v, hv, hx⟩ := subTo_val (st.1.getD i .unk) p _ hat (hs.tmps.val i)
        obtain ⟨G', hk, hag, hfz, hrow', hm⟩ := core v hv
        have hv1 : v.oneCell' = true := hv.one
        have hcell : CellsR w G' (.row st.2.length) [v] := ⟨by rw [hrow'], by rw [hrow']; exact hv1⟩
        have hlen : (st.2.set r .dead ++ [Blk.row T e (l.take n)]).length = st.2.length + 1 := by simp
        refine ⟨G', ⟨fun t q hq => ?_, fun j q hq => ?_, ⟨by rw [List.length_set]; exact hs.tmps.size, fun t => ?_⟩, hm, hs.below, hs.defers, by rw [hfz]; exact hs.fz1, by rw [hfz]; exact hs.fz2⟩⟩
        · rw [hlen]
          rw [getD_set] at hq
          split at hq
          · rcases subTo_refs _ p hq with h | h
            · simp [AV.refs] at h; omega
            · have := hs.rt i q h; omega
          · have := hs.rt t q hq; omega
        · rw [hlen]
          have : (lk (st.2.set r .dead ++ [Blk.row T e (l.take n)]) j).refs = [] ∨ lk (st.2.set r .dead ++ [Blk.row T e (l.take n)]) j = lk st.2 j := by
            by_cases h1 : j = st.2.length
            · left
              subst h1
              have : lk (st.2.set r .dead ++ [Blk.row T e (l.take n)]) st.2.length = .row T e (l.take n) := by
                simp only [lk, List.getD_eq_getElem?_getD]
                rw [List.getElem?_append_right (by simp)]
                simp
              rw [this]; rfl
            · rcases Nat.lt_or_ge j st.2.length with h2 | h2
              · by_cases h3 : r = j
                · left
                  subst h3
                  have : lk (st.2.set r .dead ++ [Blk.row T e (l.take n)]) r = .dead := by
                    simp only [lk, List.getD_eq_getElem?_getD]
                    rw [List.getElem?_append_left (by simpa using h2), List.getElem?_set]
                    simp [h2]
                  rw [this]; rfl
                · right
                  simp only [lk, List.getD_eq_getElem?_getD]
                  rw [List.getElem?_append_left (by simpa using h2), List.getElem?_set, if_neg h3]
              · left
                rw [lk_big (by simp; omega)]; rfl
          rcases this with h | h
          · rw [h] at hq; cases hq
          · rw [h] at hq; have := hs.rm j q hq; omega
        · rw [getD_set]
          split
          · rename_i h
            obtain ⟨rfl, _⟩ := h
            exact hx _ G' hk (fun q hq => hag q (hs.rt t q hq)) hcell
          · exact ValR.keep hk _ _ (fun q hq => hag q (hs.rt t q hq)) (hs.tmps.val t)
      | true =>
        cases hb : lk st.2 i with
        | box t c =>
          simp only [placeAV, hb] at hat
          have hbi := hs.mem.blk i
          rw [hb] at hbi
          obtain ⟨h0, cs, h1, h2⟩ := hbi
          obtain ⟨v, hv, hx⟩ := subTo_cells c p cs hat h2
          obtain ⟨G', hk, hag, hfz, hrow', hm⟩ := core v hv
          have hcell : CellsR w G' (.row st.2.length) [v] := ⟨by rw [hrow'], by rw [hrow']; exact hv.one⟩
          have hil : i < st.2.length := by
            rcases Nat.lt_or_ge i st.2.length with h | h
            · exact h
            · rw [lk_big h] at hb; cases hb
          have hir : r ≠ i := fun h => by subst h; rw [hlk] at hb; cases hb
          have hrc : ∀ q ∈ c.refs, q < st.2.length := fun q hq => hs.rm i q (by rw [hb]; exact hq)
          have emem : (st.2.set r .dead).set i (.box t (AV.subTo (.row st.2.length) c p)) ++ [Blk.row T e (l.take n)] = (st.2.set r .dead ++ [Blk.row T e (l.take n)]).set i (.box t (AV.subTo (.row st.2.length) c p)) := by
            rw [List.set_append_left _ _ (by simpa using hil)]
          have hlen : (st.2.set r .dead ++ [Blk.row T e (l.take n)]).length = st.2.length + 1 := by simp
          have hlki : lk (st.2.set r .dead ++ [Blk.row T e (l.take n)]) i = .box t c := by
            rw [← hb]
            simp only [lk, List.getD_eq_getElem?_getD]
            rw [List.getElem?_append_left (by simpa using hil), List.getElem?_set, if_neg hir]
          have hnb : BlkR B w G' i (.box t (AV.subTo (.row st.2.length) c p)) := by
            have ha := (hag i hil).addr
            exact ⟨by rw [ha]; exact h0, cs, by rw [ha]; exact h1, hx _ G' hk (fun q hq => hag q (hrc q hq)) hcell⟩
          have hm2 := (hm.write (x := .box t (AV.subTo (.row st.2.length) c p)) (g := (G'.addr i).block) (by rw [hlki]; rfl) rfl (fun _ _ => rfl) hnb rfl).1
          simp only [hb]
          rw [emem]
          refine ⟨G', ⟨fun t' q hq => ?_, fun j q hq => ?_, hs.tmps.keep hk (fun t' q hq => hag q (hs.rt t' q hq)), hm2, hs.below, hs.defers, by rw [hfz]; exact hs.fz1, by rw [hfz]; exact hs.fz2⟩⟩
          · rw [List.length_set, hlen]; have := hs.rt t' q hq; omega
          · rw [List.length_set, hlen]
            simp only [lk_set] at hq
            split at hq
            · rcases subTo_refs c p hq with h | h
              · simp [AV.refs] at h; omega
              · have := hrc q h; omega
            · have : (lk (st.2.set r .dead ++ [Blk.row T e (l.take n)]) j).refs = [] ∨ lk (st.2.set r .dead ++ [Blk.row T e (l.take n)]) j = lk st.2 j := by
                by_cases h1 : j = st.2.length
                · left
                  subst h1
                  have : lk (st.2.set r .dead ++ [Blk.row T e (l.take n)]) st.2.length = .row T e (l.take n) := by
                    simp only [lk, List.getD_eq_getElem?_getD]
                    rw [List.getElem?_append_right (by simp)]
                    simp
                  rw [this]; rfl
                · rcases Nat.lt_or_ge j st.2.length with h2 | h2
                  · by_cases h3 : r = j
                    · left
                      subst h3
                      have : lk (st.2.set r .dead ++ [Blk.row T e (l.take n)]) r = .dead := by
                        simp only [lk, List.getD_eq_getElem?_getD]
                        rw [List.getElem?_append_left (by simpa using h2), List.getElem?_set]
                        simp [h2]
                      rw [this]; rfl
                    · right
                      simp only [lk, List.getD_eq_getElem?_getD]
                      rw [List.getElem?_append_left (by simpa using h2), List.getElem?_set, if_neg h3]
                  · left
                    rw [lk_big (by simp; omega)]; rfl
              rcases this with h | h
              · rw [h] at hq; cases hq
              · rw [h] at hq; have := hs.rm j q hq; omega
        | _ =>
          simp only [placeAV, hb] at hat
          cases hat
    · exact ⟨G, hs⟩
  · exact ⟨G, hs⟩
/-- a pointer in a box, seen as one that is nil or to this block -/
def AV.slfAt (b : Nat) : AV → List Bool → AV
  | .st a, p => .st (AV.slfAt b a p)
  | .cons a c, p =>
    match p with
    | false :: q => .cons (AV.slfAt b a q) c
    | true :: q => .cons a (AV.slfAt b c q)
    | [] => .cons a c
  | .nilP, _ => .slf b true
  | .ptr x [], _ => if x = b then .slf b false else .ptr x []
  | a, _ => a
theorem slfAt_cells {w : World} {G : Gh} (b : Nat) : ∀ (a : AV) (p : List Bool) (cs : List Value), CellsR w G a cs → CellsR w G (AV.slfAt b a p) cs
  | .st a, p, cs, h => slfAt_cells b a p cs h
  | .cons a c, p, cs, h => by
    obtain ⟨c1, c2, e, h1, h2⟩ := h
    cases p with
    | nil => exact ⟨c1, c2, e, h1, h2⟩
    | cons y q =>
      cases y
      · exact ⟨c1, c2, e, slfAt_cells b a q c1 h1, h2⟩
      · exact ⟨c1, c2, e, h1, slfAt_cells b c q c2 h2⟩
  | .nilP, _, _, h => h
  | .ptr x [], _, cs, h => by
    simp only [AV.slfAt]
    split
    · rename_i hx; subst hx; exact h
    · exact h
  | .ptr x (y :: q), _, _, h => h
  | .unk, _, _, h | .int .., _, _, h | .bool .., _, _, h | .str .., _, _, h | .nil, _, _, h | .arr .., _, _, h | .sl .., _, _, h | .nilS, _, _, h | .row .., _, _, h | .slf .., _, _, h | .fn .., _, _, h | .tup .., _, _, h | .emp, _, _, h | .pv .., _, _, h | .sub .., _, _, h | .mp .., _, _, h | .ifc .., _, _, h | .opq .., _, _, h => h
theorem slfAt_refs (b r : Nat) : ∀ (a : AV) (p : List Bool), r ∈ (AV.slfAt b a p).refs → r = b ∨ r ∈ a.refs
  | .st a, p, h => slfAt_refs b r a p h
  | .cons a c, p, h => by
    cases p with
    | nil => exact .inr h
    | cons y q =>
      cases y
      · rcases List.mem_append.1 (show r ∈ (AV.slfAt b a q).refs ++ c.refs from h) with h | h
        · exact (slfAt_refs b r a q h).imp id fun h => List.mem_append.2 (.inl h)
        · exact .inr (List.mem_append.2 (.inr h))
      · rcases List.mem_append.1 (show r ∈ a.refs ++ (AV.slfAt b c q).refs from h) with h | h
        · exact .inr (List.mem_append.2 (.inl h))
        · exact (slfAt_refs b r c q h).imp id fun h => List.mem_append.2 (.inr h)
  | .nilP, _, h => .inl (List.mem_singleton.1 h)
  | .ptr x [], _, h => by
    simp only [AV.slfAt] at h
    split at h
    · exact .inl (List.mem_singleton.1 h)
    · exact .inr h
  | .ptr x (y :: q), _, h => .inr h
  | .unk, _, h | .int .., _, h | .bool .., _, h | .str .., _, h | .nil, _, h | .arr .., _, h | .sl .., _, h | .nilS, _, h | .row .., _, h | .slf .., _, h | .fn .., _, h | .tup .., _, h | .emp, _, h | .pv .., _, h | .sub .., _, h | .mp .., _, h | .ifc .., _, h | .opq .., _, h => .inr h
def slfSt (b i : Nat) (p : List Bool) (st : St) : St :=
  match lk st.2 i with
  | .box t c => if b < st.2.length then (st.1, st.2.set i (.box t (AV.slfAt b c p))) else st
  | _ => st
theorem slfSt_ok {B : Nat} {w0 : World} {fz0 : Nat → Prop} {st : St} {G : Gh} {a : Act} {w : World} (hs : StR B w0 fz0 st.1 st.2 G a w) (b i : Nat) (p : List Bool) : StR B w0 fz0 (slfSt b i p st).1 (slfSt b i p st).2 G a w := by
  unfold slfSt
  split
  · rename_i t c hb
    split
    · rename_i hlt
      have hrc : ∀ r ∈ c.refs, r < st.2.length := fun r hr => hs.rm i r (by rw [hb]; exact hr)
      refine ⟨fun t r hr => by rw [List.length_set]; exact hs.rt t r hr, fun j r hr => ?_, hs.tmps, hs.mem.seen hb (fun cs h => slfAt_cells b c p cs h), hs.below, hs.defers, hs.fz1, hs.fz2⟩
      rw [List.length_set]
      simp only [lk_set] at hr
      split at hr
      · rcases slfAt_refs b r c p hr with rfl | h
        · exact hlt
        · exact hrc r h
      · exact hs.rm j r hr
    · exact hs
  · exact hs
/-- what may be said less of a state -/
inductive Wk where
  | row (box : Bool) (i : Nat) (p : List Bool) (T : TypeId) (e : Sh)
  | view (box : Bool) (i : Nat) (p : List Bool) (e : Sh)
  | frz (r : Nat)
  | ifc (box : Bool) (i : Nat) (p : List Bool) (k : Option (TypeId × Sh))
  | cut (r : Nat) (box : Bool) (i : Nat) (p : List Bool)
  | slf (b i : Nat) (p : List Bool)
  | buf (box : Bool) (i : Nat) (p : List Bool) (T : TypeId) (e : Sh)
def wk1 (k : Wk) (st : St) : St :=
  match k with
  | .row box i p T e => putNil (.row st.2.length) box i p (st.1, st.2 ++ [.row T e []])
  | .view box i p e => putNil (.sl e []) box i p st
  | .frz r => frzSt r st
  | .ifc box i p k => putI k box i p st
  | .cut r box i p => cutSt r box i p st
  | .slf b i p => slfSt b i p st
  | .buf box i p T e => putNil (.row st.2.length) box i p (st.1, st.2 ++ [.bbuf T e []])
theorem wk1_ok {B : Nat} {w0 : World} {fz0 : Nat → Prop} {st : St} {G : Gh} {a : Act} {w : World} (hs : StR B w0 fz0 st.1 st.2 G a w) (k : Wk) : ∃ G', StR B w0 fz0 (wk1 k st).1 (wk1 k st).2 G' a w := by
    cases k with
    | row box i p T e =>
      obtain ⟨G', h1, h2⟩ := addRow_ok hs T e
      exact ⟨G', putNil_ok (st := (st.1, st.2 ++ [.row T e []])) h1 (show CellsR w G' (.row st.2.length) [.slice none 0 0] from ⟨by rw [h2], by rw [h2]; rfl⟩) rfl (fun r hr => by simp [AV.refs] at hr; subst hr; simp) box i p⟩
    | view box i p e => exact ⟨G, putNil_ok hs (show CellsR w G (.sl e []) [.slice none 0 0] from ⟨none, 0, rfl, Nat.le_refl _, Nat.zero_le _, fun h => absurd h (by simp)⟩) rfl (fun r hr => by simp [AV.refs] at hr) box i p⟩
    | frz r => exact frzSt_ok hs r
    | ifc box i p k => exact ⟨G, putI_ok hs k box i p⟩
    | cut r box i p => exact cutSt_ok hs r box i p
    | slf b i p => exact ⟨G, slfSt_ok hs b i p⟩
    | buf box i p T e =>
      obtain ⟨G', h1, h2⟩ := addBuf_ok hs T e
      exact ⟨G', putNil_ok (st := (st.1, st.2 ++ [.bbuf T e []])) h1 (show CellsR w G' (.row st.2.length) [.slice none 0 0] from ⟨by rw [h2], by rw [h2]; rfl⟩) rfl (fun r hr => by simp [AV.refs] at hr; subst hr; simp) box i p⟩
theorem XS.wk {P : Program} {w0 : World} {fz0 : Nat → Prop} {x : Exit} {st : St} {Q : Exit → Act → World → Prop} (k : Wk) (h : XS P w0 fz0 x (wk1 k st) Q) : XS P w0 fz0 x st Q := by
  intro G a w hs
  obtain ⟨G', hs'⟩ := wk1_ok hs k
  exact h G' a w hs'
theorem TS.wk {P : Program} {w0 : World} {fz0 : Nat → Prop} {c : Code} {st : St} {Q : Exit → Act → World → Prop} (k : Wk) (h : TS P w0 fz0 c (wk1 k st) Q) : TS P w0 fz0 c st Q := by
  intro G a w hs
  obtain ⟨G', hs'⟩ := wk1_ok hs k
  exact h G' a w hs'
/-! is a view the nil slice? it may be, if it is empty -/
def nilPre (P : Program) (k : Nat) (ops : Array Oper) (hs : List Hint) (st : St) : Option (List AV × List Blk × Option Tmp × Tmp × Prop) :=
  match evOps P ops.toList (ops.toList.take k) hs st.1 st.2 with
  | some (ts1, mem1, C) =>
    match ops.toList.drop k with
    | [o] =>
      match o.guard with
      | none =>
        match o.op with
        | .binOp .eql t (.tmp x) (.const (.slice none 0 0)) _ =>
          match P.underlying t with
          | some (.slice _) => some (ts1, mem1, o.dst, x, C)
          | _ => none
        | _ => none
      | some _ => none
    | _ => none
  | none => none
def nilOk (P : Program) (k : Nat) (ops : Array Oper) (hs : List Hint) (st : St) : Prop := match nilPre P k ops hs st with | some (_, _, _, _, C) => C | none => False
def nilVal (P : Program) (k : Nat) (ops : Array Oper) (hs : List Hint) (st : St) : AV := match nilPre P k ops hs st with | some (ts1, _, _, x, _) => ts1.getD x .unk | none => .unk
def nilR (P : Program) (k : Nat) (ops : Array Oper) (hs : List Hint) (st : St) (b : Bool) : St := match nilPre P k ops hs st with | some (ts1, mem1, d, _, _) => (tput ts1 d (.bool b), mem1) | none => ([], [])
theorem TS.nilReg {P : Program} {w0 : World} {fz0 : Nat → Prop} {st : St} {Q : Exit → Act → World → Prop} {id : Nat} {ops : Array Oper} (k : Nat) (hs : List Hint) (e : Sh) (l : List e.T) (hok : nilOk P k ops hs st) (hv : nilVal P k ops hs st = .sl e l)
    (hn : ∀ b, (b = true → l = []) → XS P w0 fz0 .normal (nilR P k ops hs st b) Q) : TS P w0 fz0 (.region id ops false) st Q := by
  unfold nilOk at hok
  unfold nilVal at hv
  unfold XS nilR at hn
  cases hp : nilPre P k ops hs st with
  | none => rw [hp] at hok; exact hok.elim
  | some r =>
    obtain ⟨ts1, mem1, d, x, C⟩ := r
    rw [hp] at hok hv
    simp only [hp] at hok hv hn
    unfold nilPre at hp
    split at hp
    · rename_i ts2 mem2 C2 hev
      split at hp
      · rename_i o hdrop
        split at hp
        · rename_i hg
          split at hp
          · rename_i t x' ty ho
            split at hp
            · rename_i E hu
              simp only [Option.some.injEq, Prod.mk.injEq] at hp
              obtain ⟨rfl, rfl, rfl, rfl, rfl⟩ := hp
              have hlen : ops.toList.length = k + 1 := by
                have := congrArg List.length hdrop
                rw [List.length_drop] at this
                simp only [List.length_singleton] at this
                omega
              have hsz : ops.size = k + 1 := by simpa using hlen
              have hok2 : ops[k]? = some o := by
                have : (ops.toList.drop k)[0]? = some o := by rw [hdrop]; rfl
                rw [List.getElem?_drop] at this
                simpa using this
              refine T.region (TO.run (ops.toList.take k) 0 hs st.1 _ st.2 _ _ (by rw [List.drop_zero, List.length_take, Nat.min_eq_left (by omega)]) hev hok ?_)
              rw [List.length_take, Nat.min_eq_left (by omega), Nat.zero_add]
              intro G a w hst
              rw [show ops.size - k = (ops.size - (k + 1)) + 1 by omega, List.range'_succ]
              simp only [wpOps, hok2]
              have hgd : evGuard ops.toList ts2 o = some true := by unfold evGuard; rw [hg]
              rw [evGuard_ok hst.tmps hgd]
              simp only [if_true]
              refine .inl ?_
              have hx : ValR w G (.sl e l) (a.eval (.tmp x')) := by rw [← hv]; exact ev_ok hst.tmps (show ev ts2 (.tmp x') = some (ts2.getD x' .unk) from rfl)
              obtain ⟨ad, cap, e1, _, _, hpos⟩ := (show ShR w G.fz (.sl e) l [a.eval (.tmp x')] from hx)
              have e2 : a.eval (.tmp x') = .slice ad l.length cap := by simpa using e1
              have hb : ad.isNone = true → l = [] := by
                intro hh
                rcases Nat.eq_zero_or_pos l.length with h | h
                · exact List.length_eq_zero_iff.1 h
                · obtain ⟨b, off, _, hb, _⟩ := hpos h
                  rw [hb] at hh; cases hh
              have hr : (execOp a.eval o).run P w = .ok (.value (.bool ad.isNone)) w := by
                have eg : (eqGuard .eql t (.tmp x') (.const (.slice none 0 0)) (.slice ad l.length cap) (.slice none 0 0)).run P w = .ok () w := rfl
                simp only [execOp, ho, e2]
                rw [show a.eval (.const (.slice none 0 0)) = Value.slice none 0 0 from rfl]
                simp only [Sem.run_bind, eg, Result.andThen_ok, Lib.run_eql_slice_nil w t E ad l.length cap 0 0 hu, Sem.run_pure]
              unfold Oper.wp
              rw [hr]
              refine TO.nil (ops := ops) (k := k + 1) (by omega) (hn ad.isNone hb) G _ w ?_
              exact ⟨tput_refs hst.rt (Nat.le_refl _) (by simp [AV.refs]), hst.rm, hst.tmps.put _ rfl, hst.mem, hst.below, by rw [put_defers]; exact hst.defers, hst.fz1, hst.fz2⟩
            · cases hp
          · cases hp
        · cases hp
      · cases hp
    · cases hp
/-! a nil slice where a view is asked for -/
end Go.Proofs.YtbpjinefbnlenaaGreatDoor
