/- A machine of values, part 27: an own variable that is given up: seen by all, written by none; contracts of the shelf. -/
import Derived.Test.YtgjklpadcmedkaaDoorAm25
namespace Go.Proofs.YtgjklpadcmedkaaDoor
open Go Go.RowKit
set_option linter.unusedVariables false

/-- a field of a field .. -/
def AV.getF : List Step → AV → Option AV
  | [], a => some a
  | .fld i off :: p, .st a =>
    match AV.fldGet i off a with
    | some c => AV.getF p c
    | none => none
  | _, _ => none
theorem getF_ok {w : World} {G : Gh} : ∀ (p : List Step) (a c : AV) (cs : List Value), AV.getF p a = some c → CellsR w G a cs → ∃ c1 c2 c3, cs = c1 ++ c2 ++ c3 ∧ c1.length = offs p ∧ CellsR w G c c2
  | [], a, c, cs, h, hc => by
    simp only [AV.getF, Option.some.injEq] at h
    subst h
    exact ⟨[], cs, [], by simp, rfl, hc⟩
  | .fld i off :: p, .st a, c, cs, h, hc => by
    simp only [AV.getF] at h
    split at h
    · rename_i d hd
      obtain ⟨c1, c2, c3, rfl, hl, h2, _⟩ := fld_ok i off a d cs hd hc
      obtain ⟨d1, d2, d3, rfl, hl2, h3⟩ := getF_ok p d c c2 h h2
      exact ⟨c1 ++ d1, d2, d3 ++ c3, by simp, by rw [List.length_append, hl, hl2]; rfl, h3⟩
    · cases h
theorem fldGet_refs : ∀ (i off : Nat) (a c : AV), AV.fldGet i off a = some c → ∀ y ∈ c.refs, y ∈ a.refs
  | 0, off, a, c, h, y, hy => by
    cases a with
    | cons a b =>
      simp only [AV.fldGet] at h
      split at h
      · simp only [Option.some.injEq] at h; subst h; exact List.mem_append.2 (.inl hy)
      · cases h
    | _ =>
      simp only [AV.fldGet] at h
      split at h
      · simp only [Option.some.injEq] at h; subst h; exact hy
      · cases h
  | i + 1, off, a, c, h, y, hy => by
    cases a with
    | cons a b =>
      simp only [AV.fldGet] at h
      split at h
      · exact List.mem_append.2 (.inr (fldGet_refs i _ b c h y hy))
      · cases h
    | _ => simp [AV.fldGet] at h
theorem getF_refs : ∀ (p : List Step) (a c : AV), AV.getF p a = some c → ∀ y ∈ c.refs, y ∈ a.refs
  | [], a, c, h, y, hy => by
    simp only [AV.getF, Option.some.injEq] at h
    subst h; exact hy
  | .fld i off :: p, .st a, c, h, y, hy => by
    simp only [AV.getF] at h
    split at h
    · rename_i d hd
      exact fldGet_refs i off a d hd y (getF_refs p d c h y hy)
    · cases h
def AV.frzB (r : Nat) (x : AV) : AV → AV
  | .st a => .st (AV.frzB r x a)
  | .cons a b => .cons (AV.frzB r x a) (AV.frzB r x b)
  | .fn f c => .fn f (AV.frzB r x c)
  | .tup a => .tup (AV.frzB r x a)
  | .pv c => .pv (AV.frzB r x c)
  | .ptr b p => if b = r then (match AV.getF p x with | some c => .pv c | none => .unk) else .ptr b p
  | .slf b z => if b = r then .unk else .slf b z
  | a => a
def Blk.frzB (r : Nat) (x : AV) : Blk → Blk
  | .box t c => .box t (AV.frzB r x c)
  | .sav ts a => .sav (ts.map (AV.frzB r x)) a
  | b => b
section
variable {w : World} {G : Gh} {r : Nat} {x : AV} {fz' : Nat → Prop}
theorem frzB_cells (hk : Keeps G.fz fz' w w) (hx : CellsR w { G with fz := fz' } (.pv x) [.pointer (some ⟨(G.addr r).block, (G.addr r).off, none⟩)]) (a : AV) : ∀ cs, CellsR w G a cs → CellsR w { G with fz := fz' } (AV.frzB r x a) cs := by
  induction a with
  | st a ih => intro cs h; exact ih cs h
  | cons a b iha ihb => intro cs h; obtain ⟨c1, c2, e, h1, h2⟩ := h; exact ⟨c1, c2, e, iha c1 h1, ihb c2 h2⟩
  | fn f c ih => intro cs h; obtain ⟨vs, e, h1⟩ := h; exact ⟨vs, e, ih vs h1⟩
  | tup a ih => intro cs h; exact h.elim
  | pv c ih => intro cs h; obtain ⟨b, off, e, hf, hb, cells, hc, hx⟩ := h; exact ⟨b, off, e, hk.fz b hf, hb, cells, ih cells hc, hx⟩
  | ptr b p =>
    intro cs h
    simp only [AV.frzB]
    split
    · rename_i hbr
      subst hbr
      split
      · rename_i c hc
        have e : cs = [Value.pointer (some ⟨(G.addr b).block, (G.addr b).off + offs p, none⟩)] := h
        obtain ⟨b', off, e2, hf, hb, cells, hcc, hx2⟩ := hx
        obtain ⟨c1, c2, c3, rfl, hl, h2⟩ := getF_ok p x c cells hc hcc
        simp only [List.cons.injEq, Value.pointer.injEq, Option.some.injEq, Addr.mk.injEq, and_true] at e2
        obtain ⟨e3, e4⟩ := e2
        refine ⟨b', off + offs p, by rw [e, e3, e4], hf, hb, c2, h2, fun i v hi => ?_⟩
        rw [Nat.add_assoc, ← hl]
        refine hx2 (c1.length + i) v ?_
        rw [List.append_assoc, List.getElem?_append_right (by omega), Nat.add_sub_cancel_left, List.getElem?_append_left (List.getElem?_eq_some_iff.1 hi).1]
        exact hi
      · exact ⟨_, h, rfl⟩
    · exact h
  | slf b z =>
    intro cs h
    simp only [AV.frzB]
    split
    · exact ⟨_, h, rfl⟩
    · exact h
  | _ => intro cs h; exact CellsR.keep (G := G) (G' := { G with fz := fz' }) hk _ cs (fun _ hh => ⟨rfl, rfl⟩) h
theorem frzB_val0 (hk : Keeps G.fz fz' w w) (hx : CellsR w { G with fz := fz' } (.pv x) [.pointer (some ⟨(G.addr r).block, (G.addr r).off, none⟩)]) (a : AV) (v : Value) (h : ValR0 w G a v) : ValR0 w { G with fz := fz' } (AV.frzB r x a) v := by
  cases a with
  | st a => obtain ⟨cs, e1, h1⟩ := h; exact ⟨cs, e1, frzB_cells hk hx a _ h1⟩
  | arr n e2 l2 => obtain ⟨cs, e1, h1⟩ := h; exact ⟨cs, e1, ShR.keep hk _ _ _ h1⟩
  | unk => trivial
  | slf b z =>
    have := frzB_cells hk hx (.slf b z) [v] h
    simp only [AV.frzB] at this ⊢
    split at this
    · rename_i hh; rw [if_pos hh]; trivial
    · rename_i hh; rw [if_neg hh]; exact this
  | ptr b p =>
    have := frzB_cells hk hx (.ptr b p) [v] h
    simp only [AV.frzB] at this ⊢
    split at this
    · rename_i hh
      rw [if_pos hh]
      split at this
      · exact this
      · trivial
    · rename_i hh; rw [if_neg hh]; exact this
  | _ => exact frzB_cells hk hx _ [v] h
theorem frzB_vals (hk : Keeps G.fz fz' w w) (hx : CellsR w { G with fz := fz' } (.pv x) [.pointer (some ⟨(G.addr r).block, (G.addr r).off, none⟩)]) : ∀ (a : AV) (vs : List Value), ValsR w G a vs → ValsR w { G with fz := fz' } (AV.frzB r x a) vs
  | .nil, vs, h => h
  | .cons a b, vs, h => by
    obtain ⟨v, t, e1, h1, h2⟩ := h
    exact ⟨v, t, e1, frzB_val0 hk hx a v h1, frzB_vals hk hx b t h2⟩
  | .unk, _, h | .int .., _, h | .bool .., _, h | .str .., _, h | .st .., _, h | .arr .., _, h | .sl .., _, h | .nilS, _, h | .row .., _, h | .ptr .., _, h | .slf .., _, h | .nilP, _, h | .fn .., _, h | .tup .., _, h | .emp, _, h | .pv .., _, h => h.elim
theorem frzB_notup (a : AV) (h : ∀ b, a ≠ .tup b) : ∀ b, AV.frzB r x a ≠ .tup b := by
  intro b
  cases a with
  | tup a => exact absurd rfl (h a)
  | ptr b p =>
    simp only [AV.frzB]
    split
    · split <;> (intro e; cases e)
    · intro e; cases e
  | slf b z => simp only [AV.frzB]; split <;> (intro e; cases e)
  | _ => intro e; cases e
theorem frzB_val (hk : Keeps G.fz fz' w w) (hx : CellsR w { G with fz := fz' } (.pv x) [.pointer (some ⟨(G.addr r).block, (G.addr r).off, none⟩)]) (a : AV) (v : Value) (h : ValR w G a v) : ValR w { G with fz := fz' } (AV.frzB r x a) v := by
  cases a with
  | tup a => obtain ⟨vs, e1, h1⟩ := h; exact ⟨vs, e1, frzB_vals hk hx a _ h1⟩
  | _ => exact ValR.of0 (frzB_val0 hk hx _ v h) (frzB_notup _ (by intro b e; cases e))
end
theorem frzB_refs {r y : Nat} {x : AV} (a : AV) : y ∈ (AV.frzB r x a).refs → y ∈ a.refs ∨ y ∈ x.refs := by
  induction a with
  | st a ih => exact ih
  | cons a b iha ihb =>
    intro h
    rcases List.mem_append.1 (show y ∈ (AV.frzB r x a).refs ++ (AV.frzB r x b).refs from h) with h | h
    · exact (iha h).imp (fun h => List.mem_append.2 (.inl h)) id
    · exact (ihb h).imp (fun h => List.mem_append.2 (.inr h)) id
  | fn f c ih => exact ih
  | tup a ih => exact ih
  | pv c ih => exact ih
  | ptr b p =>
    simp only [AV.frzB]
    split
    · split
      · rename_i c hc
        exact fun h => .inr (getF_refs p x c hc y h)
      · intro h; cases h
    · exact .inl
  | slf b z =>
    simp only [AV.frzB]
    split
    · intro h; cases h
    · exact .inl
  | _ => exact .inl
def frzBSt (r : Nat) (st : St) : St :=
  match lk st.2 r with
  | .box _ c => if c.refs.contains r then st else (st.1.map (AV.frzB r c), (st.2.map (Blk.frzB r c)).set r .dead)
  | _ => st
theorem frzBSt_ok {B : Nat} {w0 : World} {fz0 : Nat → Prop} {st : St} {G : Gh} {a : Act} {w : World} (hs : StR B w0 fz0 st.1 st.2 G a w) (r : Nat) : ∃ G', StR B w0 fz0 (frzBSt r st).1 (frzBSt r st).2 G' a w := by
  unfold frzBSt
  split
  · rename_i T c hlk
    split
    · exact ⟨G, hs⟩
    · have hb := hs.mem.blk r
      rw [hlk] at hb
      obtain ⟨h0, cs, hat, hcc⟩ := hb
      have hown := hs.mem.own r (G.addr r).block (by rw [hlk]; rfl)
      let fz' : Nat → Prop := fun b => G.fz b ∨ b = (G.addr r).block
      have hk : Keeps G.fz fz' w w := ⟨Nat.le_refl _, fun _ _ _ => rfl, fun _ h => .inl h⟩
      have hx : CellsR w { G with fz := fz' } (.pv c) [.pointer (some ⟨(G.addr r).block, (G.addr r).off, none⟩)] := by
        refine ⟨(G.addr r).block, (G.addr r).off, rfl, .inr rfl, hown.2.1, cs, CellsR.keep (G := G) (G' := { G with fz := fz' }) hk c cs (fun _ hh => ⟨rfl, rfl⟩) hcc, fun i v hi => ?_⟩
        rw [h0, Nat.zero_add]
        exact hat.cell hi
      have hrc : ∀ y ∈ c.refs, y < st.2.length := fun y hy => hs.rm r y (by rw [hlk]; exact hy)
      have hlkm : ∀ i, lk ((st.2.map (Blk.frzB r c)).set r .dead) i = if i = r then .dead else (lk st.2 i).frzB r c := by
        intro i
        have em : ∀ j, lk (st.2.map (Blk.frzB r c)) j = (lk st.2 j).frzB r c := by
          intro j
          simp only [lk, List.getD_eq_getElem?_getD, List.getElem?_map]
          cases st.2[j]? <;> rfl
        rw [lk_set, em]
        by_cases hi : i = r
        · rw [if_pos hi]
          split
          · rfl
          · rename_i hh
            have : st.2.length ≤ i := by simp at hh; have := hh hi; omega
            rw [lk_big this]; rfl
        · rw [if_neg hi, if_neg (by simp [hi])]
      have hlv : ∀ i, ((lk st.2 i).frzB r c).live { G with fz := fz' } i = (lk st.2 i).live G i := by
        intro i
        cases lk st.2 i <;> rfl
      refine ⟨{ G with fz := fz' }, ⟨fun t y hy => ?_, fun i y hy => ?_, ⟨by rw [List.length_map]; exact hs.tmps.size, fun t => ?_⟩, ⟨fun i => ?_, fun i j y hij hi hj => ?_, fun i y hi => ?_, fun b hb => ?_, hs.mem.base⟩, hs.below, hs.defers, fun b h => .inl (hs.fz1 b h), fun b hb => ?_, hs.fz2.2⟩⟩
      · rw [List.length_set, List.length_map]
        have e1 : (st.1.map (AV.frzB r c)).getD t .unk = AV.frzB r c (st.1.getD t .unk) := by
          simp only [List.getD_eq_getElem?_getD, List.getElem?_map]
          cases st.1[t]? <;> rfl
        rw [e1] at hy
        rcases frzB_refs _ hy with h | h
        · exact hs.rt t y h
        · exact hrc y h
      · rw [List.length_set, List.length_map]
        rw [hlkm] at hy
        split at hy
        · cases hy
        · have key : y ∈ (lk st.2 i).refs ∨ y ∈ c.refs := by
            revert hy
            cases lk st.2 i with
            | box t c2 => exact fun h => frzB_refs c2 h
            | sav ts a2 =>
              intro h
              obtain ⟨d, hd, hy'⟩ := List.mem_flatMap.1 (show y ∈ (ts.map (AV.frzB r c)).flatMap AV.refs from h)
              obtain ⟨d', hd', rfl⟩ := List.mem_map.1 hd
              exact (frzB_refs d' hy').imp (fun h => List.mem_flatMap.2 ⟨d', hd', h⟩) id
            | _ => exact .inl
          rcases key with h | h
          · exact hs.rm i y h
          · exact hrc y h
      · have e1 : (st.1.map (AV.frzB r c)).getD t .unk = AV.frzB r c (st.1.getD t .unk) := by
          simp only [List.getD_eq_getElem?_getD, List.getElem?_map]
          cases st.1[t]? <;> rfl
        rw [e1]
        exact frzB_val hk hx _ _ (hs.tmps.val t)
      · rw [hlkm]
        split
        · trivial
        · have hbi := hs.mem.blk i
          revert hbi
          cases lk st.2 i with
          | dead => exact fun _ => trivial
          | iter s p => exact id
          | map t k e2 l2 =>
            rintro ⟨es, clock, b1, b2⟩
            exact ⟨es, clock, b1, AllR.mono (fun x y hxy => EntR.keep (G := G) (G' := { G with fz := fz' }) hk hxy) _ _ b2⟩
          | box t c2 => exact fun ⟨h1, cs', h2, h3⟩ => ⟨h1, cs', h2, frzB_cells hk hx c2 cs' h3⟩
          | sav ts a2 =>
            rintro ⟨⟨h1, h2⟩, h3⟩
            refine ⟨⟨by rw [List.length_map]; exact h1, fun t => ?_⟩, h3⟩
            have e1 : (ts.map (AV.frzB r c)).getD t .unk = AV.frzB r c (ts.getD t .unk) := by
              simp only [List.getD_eq_getElem?_getD, List.getElem?_map]
              cases ts[t]? <;> rfl
            rw [e1]
            exact frzB_val hk hx _ _ (h2 t)
          | row t e2 l2 => exact fun ⟨h1, cs', h2, h3⟩ => ⟨h1, cs', h2, CatR.mono (fun y c hy => ShR.keep hk e2 y c hy) _ _ h3⟩
          | bbuf t e2 l2 => exact fun ⟨⟨h1, cs', h2, h3⟩, h4⟩ => ⟨⟨h1, cs', h2, CatR.mono (fun y c hy => ShR.keep hk e2 y c hy) _ _ h3⟩, h4⟩
          | rowl t e2 l2 y => exact fun ⟨h1, d1, d2, h2, h3, h4⟩ => ⟨h1, d1, d2, h2, CatR.mono (fun y c hy => ShR.keep hk e2 y c hy) _ _ h3, LstR.keep (G := G) (G' := { G with fz := fz' }) hk y d2 (fun _ _ => ⟨rfl, rfl⟩) h4⟩
      · rw [hlkm] at hi hj
        split at hi
        · cases hi
        · split at hj
          · cases hj
          · rw [hlv] at hi hj
            exact hs.mem.apart i j y hij hi hj
      · rw [hlkm] at hi
        split at hi
        · cases hi
        · rename_i hir
          rw [hlv] at hi
          have := hs.mem.own i y hi
          refine ⟨this.1, this.2.1, fun hf => ?_⟩
          rcases hf with hf | hf
          · exact this.2.2 hf
          · subst hf
            exact hs.mem.apart i r _ hir hi (by rw [hlk]; rfl)
      · rcases hb with h | h
        · exact hs.mem.fz b h
        · rw [h]; exact hown.2.1
      · rcases hb with h | h
        · exact hs.fz2.1 b h
        · rw [h]; exact .inr hown.1
  · exact ⟨G, hs⟩
section
variable {P : Program} {w0 : World} {fz0 : Nat → Prop} {st : St} {Q : Exit → Act → World → Prop} {ops : Array Oper} {k : Nat}
theorem TS.frzB {c : Code} (r : Nat) (h : TS P w0 fz0 c (frzBSt r st) Q) : TS P w0 fz0 c st Q := by
  intro G a w hs
  obtain ⟨G', hs'⟩ := frzBSt_ok hs r
  exact h G' a w hs'
theorem XS.frzB {e : Exit} (r : Nat) (h : XS P w0 fz0 e (frzBSt r st) Q) : XS P w0 fz0 e st Q := by
  intro G a w hs
  obtain ⟨G', hs'⟩ := frzBSt_ok hs r
  exact h G' a w hs'
theorem TOS.frzB (r : Nat) (h : TOS P w0 fz0 ops k (frzBSt r st) Q) : TOS P w0 fz0 ops k st Q := by
  intro G a w hs
  obtain ⟨G', hs'⟩ := frzBSt_ok hs r
  exact h G' a w hs'
end
/-- a function of a text and a byte that says a number and leaves all as it was -/
theorem PureC.textByte {P : Program} {f : Nat} (s : List UInt8) (c r : Int) (h : ∀ w, Calls P f #[.string ⟨s.toArray⟩, .int .u8 c] w fun e w' => e = .returned (.int .i64 r) ∧ w' = w) : PureC P f [.str s, .int .u8 c] (.int .i64 r) [] := by
  intro w fz vs hfz ha
  obtain ⟨v1, t1, rfl, h1, v2, t2, rfl, h2, h3⟩ := ha
  simp only [ArgsR] at h3
  subst h3
  have e1 : [v1] = [Value.string ⟨s.toArray⟩] := h1
  have e2 : [v2] = [Value.int .u8 c] := h2
  obtain rfl : v1 = .string ⟨s.toArray⟩ := by simpa using e1
  obtain rfl : v2 = .int .u8 c := by simpa using e2
  refine (h w).mono ?_
  rintro e w' ⟨rfl, rfl⟩
  exact ⟨_, G0 fz, rfl, NewR.none (Below.refl _ _), rfl⟩
theorem ai {a b : Prop} (x : a) (y : b) : a ∧ b := ⟨x, y⟩
theorem tv : True := trivial
end Go.Proofs.YtgjklpadcmedkaaDoor
