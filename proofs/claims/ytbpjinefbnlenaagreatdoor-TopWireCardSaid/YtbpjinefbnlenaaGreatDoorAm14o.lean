/- A machine of values, part 14o: rows that do not begin where their block begins; rows whose last element is no datum. -/
import Derived.Test.YtbpjinefbnlenaaGreatDoorAm14
namespace Go.Proofs.YtbpjinefbnlenaaGreatDoor
open Go Go.RowKit
set_option linter.unusedVariables false

def sliceAddr : Value → Addr
  | .slice (some a) _ _ => a
  | _ => default
/-- a new block in the place of an old one -/
theorem MemR.newBlkAt {B : Nat} {w w' : World} {G : Gh} {mem mem0 : List Blk} {x : Blk} {v' : Value} {old : Option Nat} (base : Nat) (hm : MemR B w G mem)
    (hm0 : ∀ i, lk mem0 i = lk mem i ∨ lk mem0 i = .dead) (hold : ∀ i g, old = some g → (lk mem0 i).live G i ≠ some g) (holdB : ∀ g, old = some g → ¬ G.fz g)
    (hrefs : ∀ i r, r ∈ (lk mem i).refs → r ≠ base)
    (hbel : Below B w w') (hblk : ∀ g, g < w.heap.size → old ≠ some g → w'.heap[g]? = w.heap[g]?) (hnew : ∀ g, rowBlk v' = some g → old = some g ∨ w.heap.size ≤ g) (hv : ∀ g, rowBlk v' = some g → B ≤ g ∧ g < w'.heap.size)
    (hx : ∀ G' : Gh, G'.fz = G.fz → G'.rowv base = v' → G'.addr base = sliceAddr v' → (∀ i, i ≠ base → Agree G G' i) → Keeps G.fz G'.fz w w' → BlkR B w' G' base x ∧ x.live G' base = rowBlk v') :
    ∃ G', MemR B w' G' (memPut mem0 base [x]) ∧ Keeps G.fz G'.fz w w' ∧ (∀ i, i ≠ base → Agree G G' i) ∧ G'.rowv base = v' ∧ G'.fz = G.fz := by
  have hk : Keeps G.fz G.fz w w' := ⟨hbel.size, fun b hf hlt => hblk b hlt (fun ho => holdB b ho hf), fun _ h => h⟩
  let G' : Gh := G.put base (sliceAddr v') v'
  have hag : ∀ i, i ≠ base → Agree G G' i := fun i hi => Gh.put_agree _ _ _ _ _ hi
  obtain ⟨hx1, hx2⟩ := hx G' rfl (by simp [G', Gh.put]) (by simp [G', Gh.put]) hag hk
  have hlv : ∀ i y, i ≠ base → (lk mem0 i).live G' i = some y → (lk mem i).live G i = some y ∧ old ≠ some y := by
    intro i y hi h
    rw [live_agree (lk mem0 i) (hag i hi)] at h
    refine ⟨?_, fun ho => hold i y ho h⟩
    rcases hm0 i with e1 | e1
    · rw [e1] at h; exact h
    · rw [e1] at h; cases h
  have hlk : ∀ i, lk (memPut mem0 base [x]) i = if i = base then x else lk mem0 i := by
    intro i
    rw [lk_memPut]
    by_cases h : i = base
    · subst h; rw [if_pos (by simp), if_pos rfl, Nat.sub_self]; rfl
    · rw [if_neg (by simp; omega), if_neg h]
  refine ⟨G', ⟨fun i => ?_, fun i j y hij hi hj => ?_, fun i y hi => ?_, fun b hb => Nat.lt_of_lt_of_le (hm.fz b hb) hbel.size, hm.base.below hbel⟩, hk, fun i hi => hag i hi, by simp [G', Gh.put], rfl⟩
  · rw [hlk]
    split
    · rename_i h; subst h; exact hx1
    · rename_i h
      rcases hm0 i with e1 | e1
      · rw [e1]
        refine (hm.blk i).keep hk (hag i h) (fun r hr => hag r (hrefs i r hr)) (Nat.le_refl _) (fun y hy => ?_)
        have hy0 : (lk mem0 i).live G i = some y := by rw [e1]; exact hy
        exact hblk y (hm.own i y hy).2.1 (fun ho => hold i y ho hy0)
      · rw [e1]; trivial
  · rw [hlk] at hi hj
    split at hi <;> split at hj
    · omega
    · rename_i h1 h2
      subst h1
      obtain ⟨h3, h4⟩ := hlv j y h2 hj
      rw [hx2] at hi
      rcases hnew y hi with h | h
      · exact h4 h
      · have := (hm.own j y h3).2.1; omega
    · rename_i h1 h2
      subst h2
      obtain ⟨h3, h4⟩ := hlv i y h1 hi
      rw [hx2] at hj
      rcases hnew y hj with h | h
      · exact h4 h
      · have := (hm.own i y h3).2.1; omega
    · rename_i h1 h2
      exact hm.apart i j y hij (hlv i y h1 hi).1 (hlv j y h2 hj).1
  · rw [hlk] at hi
    split at hi
    · rename_i h
      subst h
      rw [hx2] at hi
      refine ⟨(hv y hi).1, (hv y hi).2, fun hf => ?_⟩
      rcases hnew y hi with h | h
      · exact holdB y h hf
      · have := hm.fz y hf; omega
    · rename_i h
      have := hm.own i y (hlv i y h hi).1
      exact ⟨this.1, Nat.lt_of_lt_of_le this.2.1 hbel.size, this.2.2⟩
/-! a row, from whatever place of its block on -/
theorem RowV.at0 {B : Nat} {w : World} {t : TypeId} {size : Nat} {v : Value} {n : Nat} {cs : List Value} (h : RowV B w t size v n cs) {a : Addr} (ha : ∀ g, rowBlk v = some g → a = ⟨g, 0, none⟩) : RowAt v a := by
  intro g o k cap hv hc
  rcases h with ⟨_, _, a', rfl⟩ | ⟨g', cap', rest, rfl, _⟩
  · have := (Value.slice.inj hv).2.2; omega
  · obtain ⟨h1, h2, h3⟩ := Value.slice.inj hv
    obtain ⟨rfl, rfl, _⟩ := Addr.mk.inj (Option.some.inj h1)
    refine ha g' ?_
    cases cap' with
    | zero => omega
    | succ c => rfl
def rowD (mem : List Blk) (r : Nat) : Option (TypeId × (Σ e : Sh, List e.T)) :=
  match lk mem r with
  | .row T e l => some (T, ⟨e, l⟩)
  | .rowl T e l none => some (T, ⟨e, l⟩)
  | _ => none
theorem rowD_ok {B : Nat} {w : World} {G : Gh} {mem : List Blk} (hm : MemR B w G mem) {r : Nat} {T : TypeId} {e : Sh} {l : List e.T} (h : rowD mem r = some (T, ⟨e, l⟩)) :
    ∃ cs, RowO B w T e.size (G.rowv r) l.length cs ∧ CatR (ShR w G.fz e) l cs ∧ RowAt (G.rowv r) (G.addr r) ∧ (lk mem r).live G r = rowBlk (G.rowv r) ∧ lk mem r ≠ .dead := by
  unfold rowD at h
  split at h
  · rename_i T' e' l' hlk
    simp only [Option.some.injEq, Prod.mk.injEq, Sigma.mk.injEq] at h
    obtain ⟨rfl, rfl, h⟩ := h
    obtain rfl := eq_of_heq h
    have hb := hm.blk r
    rw [hlk] at hb
    obtain ⟨ha, cs, hrow, hcat⟩ := hb
    exact ⟨cs, hrow.toO, hcat, hrow.at0 ha, by rw [hlk]; rfl, by rw [hlk]; exact fun h => by cases h⟩
  · rename_i T' e' l' hlk
    simp only [Option.some.injEq, Prod.mk.injEq, Sigma.mk.injEq] at h
    obtain ⟨rfl, rfl, h⟩ := h
    obtain rfl := eq_of_heq h
    have hb := hm.blk r
    rw [hlk] at hb
    obtain ⟨ha, cs, c2, hrow, hcat, hx⟩ := hb
    obtain rfl : c2 = [] := hx
    rw [List.append_nil, show lstN none = 0 from rfl, Nat.add_zero] at hrow
    exact ⟨cs, hrow, hcat, ha, by rw [hlk]; rfl, by rw [hlk]; exact fun h => by cases h⟩
  · cases h
theorem rowAt_self {B : Nat} {w : World} {t : TypeId} {size : Nat} {v : Value} {n : Nat} {cs : List Value} (h : RowO B w t size v n cs) : RowAt v (sliceAddr v) := by
  intro g o k cap hv hc
  rw [hv]; rfl
/-! 'append' to such a row -/
theorem run_append_roomO {P : Program} (w : World) (t ty e : TypeId) (i : TypeInfo) (ht : P.underlying t = some (.slice e)) (hi : P.info? e = some i)
    (g o sLen sCap : Nat) (cur : Array Value) (fr : Nat × Nat) (hg : w.heap[g]? = some (.cells cur e fr)) (hfr : fr = (0, 0) ∨ cur.size ≤ fr.1)
    (a : Addr) (m c : Nat) (news : List Value) (hl : news.length = m * i.size) (hnews : ∀ j u, news[j]? = some u → w.cell? (a.add j) = some u) (h1 : ∀ u ∈ news, u.oneCell' = true)
    (hroom : sLen + m ≤ sCap) (hfit : o + sLen * i.size + news.length ≤ cur.size) :
    (Builtin.append_ #[t, t] ty #[.slice (some ⟨g, o, none⟩) sLen sCap, .slice (some a) m c]).run P w =
      .ok (.slice (some ⟨g, o, none⟩) (sLen + m) sCap) (w.setRow g (cur.toList.take (o + sLen * i.size) ++ news ++ cur.toList.drop (o + sLen * i.size + news.length)).toArray) := by
  have hf := run_firstCells_some (P := P) w i.size m a m c news hl hnews
  have hst := run_storeCells_fr P g (o + sLen * i.size) e fr news 0 cur w hg (by simpa using hfit) hfr h1
  simp only [Nat.add_zero] at hst
  simp [Builtin.append_, run_underlying ht, sizeOf, typeInfo, hi, Builtin.lenOf, hroom, hf, addr_add', hst]
theorem run_appO {P : Program} {w : World} {B n m : Nat} {t ty el : TypeId} {inf : TypeInfo} {z : Value} {size : Nat} (ht : P.underlying t = some (.slice el)) (hi : P.info? el = some inf) (hz : inf.zero = some z) (hzs : z.cells.size = size) (hsz : inf.size = size) (h0 : 0 < size) (hb : inf.bytes ≤ 4096)
    {v xv : Value} {xs us : List Value} (hv : RowO B w el size v n xs) (hx : SrcV w size xv m us) (hus : ∀ u ∈ us, u.oneCell' = true) (hC : n + m ≤ capK P el) (hB : B ≤ w.heap.size) :
    ∃ v' w', (Builtin.append_ #[t, t] ty #[v, xv]).run P w = .ok v' w' ∧ RowO B w' el size v' (n + m) (xs ++ us) ∧ Below B w w' ∧ (∀ g, g < w.heap.size → rowBlk v ≠ some g → w'.heap[g]? = w.heap[g]?) ∧ (∀ g, rowBlk v' = some g → rowBlk v = some g ∨ w.heap.size ≤ g) := by
  rcases hv with ⟨rfl, rfl, a, rfl⟩ | ⟨g, pre, cap, rest, rfl, hcap, hBg, ho, h1, h2, h3, h4⟩
  · obtain ⟨v', w', hr, h5, h6, h7, h8, _⟩ := run_app (P := P) (ty := ty) ht hi hz hzs hsz h0 hb (v := .slice a 0 0) (.inl ⟨rfl, rfl, a, rfl⟩) hx hus hC hB
    exact ⟨v', w', hr, h5.toO, h6, h7, h8⟩
  · obtain ⟨hul, ad, xcap, rfl, hsrc⟩ := hx
    obtain ⟨hbytes, hK⟩ := capK_le hi hC
    have hmax : n + m ≤ maxLen := by unfold maxLen; omega
    rcases Nat.eq_zero_or_pos m with hm | hm
    · subst hm
      obtain rfl : us = [] := List.length_eq_zero_iff.1 (by omega)
      refine ⟨.slice (some ⟨g, pre.length, none⟩) n cap, w, ?_, by rw [List.append_nil, Nat.add_zero]; exact .inr ⟨g, pre, cap, rest, rfl, hcap, hBg, ho, h1, h2, h3, h4⟩, Below.refl _ _, fun _ _ _ => rfl, fun g hg => .inl hg⟩
      cases ad <;> simp [Builtin.append_, run_underlying ht, sizeOf, typeInfo, hi, Builtin.lenOf, Builtin.firstCells, h1, storeCells, loadCells, loadCellsFrom]
    · obtain ⟨b, off, rfl, hcell⟩ := hsrc hm
      have hnews : ∀ j u, us[j]? = some u → w.cell? ((⟨b, off, none⟩ : Addr).add j) = some u := fun j u hj => by rw [addr_add']; exact hcell j u hj
      by_cases hroom : n + m ≤ cap
      · have hcsz : (pre ++ xs ++ rest).toArray.size = pre.length + cap * size := by
          rw [List.append_assoc]; simpa using h4
        have hmul : (n + m) * size ≤ cap * size := Nat.mul_le_mul_right _ hroom
        rw [Nat.add_mul] at hmul
        have hfit : pre.length + n * inf.size + us.length ≤ (pre ++ xs ++ rest).toArray.size := by rw [hul, hcsz, hsz]; omega
        obtain ⟨fr, ho, hfr⟩ := ho
        have hr := run_append_roomO (P := P) w t ty el inf ht hi g pre.length n cap (pre ++ xs ++ rest).toArray fr ho (hfr.imp id fun h => by simpa using h.2) ⟨b, off, none⟩ m xcap us (by rw [hul, hsz]) hnews hus hroom hfit
        refine ⟨_, _, hr, ?_, ⟨rfl, rfl, rfl, by simp, fun k hk => setRow_other _ _ _ _ (by omega)⟩, fun g' _ hne => setRow_other _ _ _ _ (fun e => hne ?_), fun g' hg' => .inl ?_⟩
        · refine .inr ⟨g, pre, cap, rest.drop us.length, rfl, hcap, hBg, ?_, hroom, h2, by rw [List.length_append, h3, hul, Nat.add_mul], ?_⟩
          · have hfr2 : fr = (0, 0) ∨ (el = 5 ∧ (pre ++ (xs ++ us) ++ rest.drop us.length).length ≤ fr.1) := hfr.imp id fun h => by
              refine ⟨h.1, ?_⟩
              have h := h.2
              simp only [List.length_append, List.length_drop] at h h4 ⊢
              omega
            refine ⟨fr, ?_, hfr2⟩
            rw [setRow_heap w g _ _ el fr ho]
            congr 2
            have e1 : pre.length + n * inf.size = (pre ++ xs).length := by rw [List.length_append, h3, hsz]
            simp only [e1]
            rw [List.take_left, ← List.drop_drop, List.drop_left]
            simp [List.append_assoc]
          · simp only [List.length_append, List.length_drop] at h4 ⊢
            omega
        · subst e
          cases cap with
          | zero => omega
          | succ k => rfl
        · cases cap with
          | zero => omega
          | succ k => simp [rowBlk] at hg' ⊢; exact hg'
      · have holds : ∀ j u, xs[j]? = some u → w.cell? ((⟨g, pre.length, none⟩ : Addr).add j) = some u := fun j u hj => by
          rw [addr_add']
          exact ho.cell (by rw [List.getElem?_append_right (by omega), Nat.add_sub_cancel_left]; exact hj)
        have hr := run_append_grow (P := P) w t ty el inf z ht hi hz ⟨g, pre.length, none⟩ n cap xs (by rw [h3, hsz]) holds ⟨b, off, none⟩ m xcap us (by rw [hul, hsz]) hnews (by omega) (by omega) (growslice_fits (by omega) hbytes)
        have hge := grownCap_ge w (n + m) cap el
        have hcm := grownCap_le_maxLen w (n + m) cap el hmax
        have hlen : (xs ++ us).length = (n + m) * size := by rw [List.length_append, h3, hul, Nat.add_mul]
        refine ⟨_, _, hr, ?_, ((Below.refl B w).drew).alloc hB _, fun g hg _ => Below.heap_alloc w.drew _ g hg, fun g hg => .inr ?_⟩
        · refine .inr ⟨w.heap.size, [], grownCap w (n + m) cap el, (Builtin.zeroCells z.cells (grownCap w (n + m) cap el - (n + m))).toList, rfl, by omega, hB, ?_, hge, hcm, hlen, ?_⟩
          · refine ⟨(0, 0), ?_, .inl rfl⟩
            rw [show w.heap.size = w.drew.heap.size from rfl, alloc_new]
            congr 2
            apply Array.ext'
            simp
          · rw [List.length_append, hlen]
            simp only [Array.length_toList, zcells_size, hzs, ← Nat.add_mul]
            congr 1
            omega
        · generalize grownCap w (n + m) cap el = gc at hg
          cases gc with
          | zero => simp [rowBlk] at hg
          | succ k => simp [rowBlk] at hg; omega
theorem RowO.src {B : Nat} {w : World} {t : TypeId} {size : Nat} {v : Value} {n : Nat} {cs : List Value} (h : RowO B w t size v n cs) : SrcV w size v n cs := by
  rcases h with ⟨rfl, rfl, a, rfl⟩ | ⟨g, pre, cap, rest, rfl, hc, hB, ho, h1, h2, h3, _⟩
  · exact ⟨by simp, a, 0, rfl, fun h => by omega⟩
  · exact ⟨h3, _, cap, rfl, fun _ => ⟨g, pre.length, rfl, fun i u hi => ho.cell (by rw [List.getElem?_append_right (by omega), Nat.add_sub_cancel_left]; exact hi)⟩⟩
/-- what is appended: data, and perhaps one that is no datum -/
def newPart (mem : List Blk) (e : Sh) (ax : AV) : Option (List e.T × Option (Bool × AV)) :=
  match srcL mem e ax with
  | some l' => some (l', none)
  | none =>
    match ax with
    | .row q =>
      match lk mem q with
      | .rowl _ e' [] (some (true, c)) => if e'.size = e.size then some ([], some (true, c)) else none
      | _ => none
    | _ => none
theorem newPart_ok {B : Nat} {w : World} {G : Gh} {mem : List Blk} (hm : MemR B w G mem) {e : Sh} {ax : AV} {l' : List e.T} {x' : Option (Bool × AV)} {v : Value} (h : newPart mem e ax = some (l', x')) (hv : ValR w G ax v) :
    ∃ c1 c2, SrcV w e.size v (l'.length + lstN x') (c1 ++ c2) ∧ CatR (ShR w G.fz e) l' c1 ∧ LstR w G x' c2 ∧ (∀ u ∈ c1 ++ c2, u.oneCell' = true) ∧ (∀ r ∈ lstRefs x', ∃ i, r ∈ (lk mem i).refs) := by
  unfold newPart at h
  split at h
  · rename_i l2 hsrc
    simp only [Option.some.injEq, Prod.mk.injEq] at h
    obtain ⟨rfl, rfl⟩ := h
    obtain ⟨us, h1, h2⟩ := srcL_ok hm hsrc hv
    exact ⟨us, [], by rw [List.append_nil]; exact h1, h2, rfl, by rw [List.append_nil]; exact CatR.one' e _ _ h2, fun r hr => by cases hr⟩
  · rename_i hs0
    clear hs0
    split at h
    · rename_i q
      split at h
      · rename_i T e' c hlk
        split at h
        · rename_i he
          simp only [Option.some.injEq, Prod.mk.injEq] at h
          obtain ⟨rfl, rfl⟩ := h
          have hb := hm.blk q
          rw [hlk] at hb
          obtain ⟨_, d1, d2, hrow, hcat, hx⟩ := hb
          obtain rfl : d1 = [] := hcat
          obtain ⟨e1, _⟩ := (show [v] = [G.rowv q] ∧ _ from hv)
          obtain rfl : v = G.rowv q := by simpa using e1
          rw [he] at hrow
          refine ⟨[], d2, hrow.src, rfl, hx, ?_, fun r hr => ⟨q, by rw [hlk]; exact hr⟩⟩
          rw [List.nil_append]
          exact CellsR.one c d2 (hx.1 rfl)
        · cases h
      · cases h
    · cases h
end Go.Proofs.YtbpjinefbnlenaaGreatDoor
