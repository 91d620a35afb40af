/- A machine of values, part 14: append. -/
import Derived.Test.YtbpjinefbnlenaaGreatDoorAm13
namespace Go.Proofs.YtbpjinefbnlenaaGreatDoor
open Go Go.RowKit
set_option linter.unusedVariables false

/-- a slice value that is appended -/
def SrcV (w : World) (size : Nat) (v : Value) (m : Nat) (us : List Value) : Prop :=
  us.length = m * size ∧ ∃ ad cap, v = .slice ad m cap ∧ (0 < m → ∃ b off, ad = some ⟨b, off, none⟩ ∧ ∀ i u, us[i]? = some u → w.cell? ⟨b, off + i, none⟩ = some u)
theorem zcells_size (z : Array Value) (n : Nat) : (Builtin.zeroCells z n).size = n * z.size := by simp [Builtin.zeroCells]
/-- 'append' where there is room, in a row behind whose cells something may be barred -/
theorem run_append_roomF {P : Program} (w : World) (t ty e : TypeId) (i : TypeInfo) (ht : P.underlying t = some (.slice e)) (hi : P.info? e = some i)
    (g sLen sCap : Nat) (cur : Array Value) (fr : Nat × Nat) (hg : w.heap[g]? = some (.cells cur e fr)) (hfr : fr = (0, 0) ∨ cur.size ≤ fr.1)
    (a : Addr) (m c : Nat) (news : List Value) (hl : news.length = m * i.size) (hnews : ∀ j u, news[j]? = some u → w.cell? (a.add j) = some u) (h1 : ∀ u ∈ news, u.oneCell' = true)
    (hroom : sLen + m ≤ sCap) (hfit : sLen * i.size + news.length ≤ cur.size) :
    (Builtin.append_ #[t, t] ty #[.slice (some ⟨g, 0, none⟩) sLen sCap, .slice (some a) m c]).run P w =
      .ok (.slice (some ⟨g, 0, none⟩) (sLen + m) sCap) (w.setRow g (cur.toList.take (sLen * i.size) ++ news ++ cur.toList.drop (sLen * i.size + news.length)).toArray) := by
  have hf := run_firstCells_some (P := P) w i.size m a m c news hl hnews
  have hst := run_storeCells_fr P g (sLen * i.size) e fr news 0 cur w hg (by simpa using hfit) hfr h1
  simp only [Nat.add_zero] at hst
  simp [Builtin.append_, run_underlying ht, sizeOf, typeInfo, hi, Builtin.lenOf, hroom, hf, Addr.add_lit, hst]
/-- how many elements of a type a row may have that 'append' makes -/
def capK (P : Program) (el : TypeId) : Nat :=
  match P.info? el with
  | some inf => 140737488355328 / inf.bytes
  | none => 0
theorem capK_le {P : Program} {el : TypeId} {inf : TypeInfo} (hi : P.info? el = some inf) {n : Nat} (h : n ≤ capK P el) : n * inf.bytes ≤ 140737488355328 ∧ n ≤ 140737488355328 := by
  unfold capK at h
  rw [hi] at h
  exact ⟨Nat.le_trans (Nat.mul_le_mul_right _ h) (Nat.div_mul_le_self _ _), Nat.le_trans h (Nat.div_le_self _ _)⟩
theorem run_app {P : Program} {w : World} {B n m : Nat} {t ty el : TypeId} {inf : TypeInfo} {z : Value} {size : Nat} (ht : P.underlying t = some (.slice el)) (hi : P.info? el = some inf) (hz : inf.zero = some z) (hzs : z.cells.size = size) (hsz : inf.size = size) (h0 : 0 < size) (hb : inf.bytes ≤ 4096)
    {v xv : Value} {xs us : List Value} (hv : RowV B w el size v n xs) (hx : SrcV w size xv m us) (hus : ∀ u ∈ us, u.oneCell' = true) (hC : n + m ≤ capK P el) (hB : B ≤ w.heap.size) :
    ∃ v' w', (Builtin.append_ #[t, t] ty #[v, xv]).run P w = .ok v' w' ∧ RowV B w' el size v' (n + m) (xs ++ us) ∧ Below B w w' ∧ (∀ g, g < w.heap.size → rowBlk v ≠ some g → w'.heap[g]? = w.heap[g]?) ∧ (∀ g, rowBlk v' = some g → rowBlk v = some g ∨ w.heap.size ≤ g) ∧ (Tight v → Tight v') := by
  obtain ⟨hul, ad, xcap, rfl, hsrc⟩ := hx
  obtain ⟨hbytes, hK⟩ := capK_le hi hC
  have hmax : n + m ≤ maxLen := by unfold maxLen; omega
  rcases Nat.eq_zero_or_pos m with hm | hm
  · subst hm
    obtain rfl : us = [] := List.length_eq_zero_iff.1 (by omega)
    obtain ⟨a, cap, hval, hnc, _, _⟩ := hv.slice
    refine ⟨v, w, ?_, by simpa using hv, Below.refl _ _, fun _ _ _ => rfl, fun g hg => .inl hg, id⟩
    subst hval
    cases ad <;> cases a <;> simp [Builtin.append_, run_underlying ht, sizeOf, typeInfo, hi, Builtin.lenOf, Builtin.firstCells, hnc, storeCells, loadCells, loadCellsFrom]
  · obtain ⟨b, off, rfl, hcell⟩ := hsrc hm
    have hnews : ∀ j u, us[j]? = some u → w.cell? ((⟨b, off, none⟩ : Addr).add j) = some u := fun j u hj => by rw [addr_add']; exact hcell j u hj
    have tg : ∀ (a : Addr) (k c : Nat), 0 < c → Tight (.slice (some a) k c) := fun a k c hc b j e => by
      have := (Value.slice.inj e).2.2
      omega
    -- the grown row
    have grown : ∀ (n' : Nat) (xs' : List Value) (old : Nat) (w' : World), n' + m ≤ maxLen → xs'.length = n' * size →
        w' = w.drew.alloc (.cells ((xs' ++ us).toArray ++ Builtin.zeroCells z.cells (grownCap w (n' + m) old el - (n' + m))) el) →
        RowV B w' el size (.slice (some ⟨w.heap.size, 0, none⟩) (n' + m) (grownCap w (n' + m) old el)) (n' + m) (xs' ++ us) ∧ Below B w w' ∧ (∀ g, g < w.heap.size → w'.heap[g]? = w.heap[g]?) ∧ (∀ g, rowBlk (.slice (some ⟨w.heap.size, 0, none⟩) (n' + m) (grownCap w (n' + m) old el)) = some g → w.heap.size ≤ g) := by
      intro n' xs' old w' hmax' hxs' hw'
      have hge := grownCap_ge w (n' + m) old el
      have hcm := grownCap_le_maxLen w (n' + m) old el hmax'
      have hlen : (xs' ++ us).length = (n' + m) * size := by rw [List.length_append, hxs', hul, Nat.add_mul]
      subst hw'
      refine ⟨?_, ((Below.refl B w).drew).alloc hB _, fun g hg => Below.heap_alloc w.drew _ g hg, fun g hg => ?_⟩
      · refine .inr ⟨w.heap.size, grownCap w (n' + m) old el, (Builtin.zeroCells z.cells (grownCap w (n' + m) old el - (n' + m))).toList, rfl, by omega, hB, ?_, hge, hcm, hlen, ?_⟩
        · refine ⟨(0, 0), ?_, .inl rfl⟩
          rw [show w.heap.size = w.drew.heap.size from rfl, alloc_new]
          congr 2
          apply Array.ext'
          simp
        · rw [List.length_append, hlen]
          simp only [Array.length_toList, zcells_size, hzs, ← Nat.add_mul]
          congr 1
          omega
      · generalize grownCap w (n' + m) old el = gc at hg
        cases gc with
        | zero => simp [rowBlk] at hg
        | succ k => simp [rowBlk] at hg; omega
    rcases hv with ⟨rfl, rfl, a, rfl⟩ | ⟨g, cap, rest, rfl, hcap, hBg, ho, h1, h2, h3, h4⟩
    · cases a with
      | none =>
        have hr := run_append_nil (P := P) w t ty el inf z ht hi hz ⟨b, off, none⟩ m xcap us (by rw [hul, hsz]) hnews hm (by omega) (by simp only [Nat.zero_add] at hbytes; omega)
        have hg := grown 0 [] 0 _ hmax (by simp) rfl
        simp only [Nat.zero_add, List.nil_append] at hg ⊢
        exact ⟨_, _, hr, hg.1, hg.2.1, fun g hlt _ => hg.2.2.1 g hlt, fun g h => .inr (hg.2.2.2 g h), fun _ => tg _ _ _ (by have := grownCap_ge w m 0 el; omega)⟩
      | some a =>
        have hr := run_append_grow (P := P) w t ty el inf z ht hi hz a 0 0 [] (by simp) (fun j u hj => by simp at hj) ⟨b, off, none⟩ m xcap us (by rw [hul, hsz]) hnews (by omega) (by omega) (growslice_fits (by omega) hbytes)
        have hg := grown 0 [] 0 _ hmax (by simp) rfl
        have e : (([] : List Value).toArray ++ us.toArray) = ([] ++ us).toArray := by simp
        rw [e] at hr
        exact ⟨_, _, hr, hg.1, hg.2.1, fun g hlt _ => hg.2.2.1 g hlt, fun g h => .inr (hg.2.2.2 g h), fun _ => tg _ _ _ (by have := grownCap_ge w (0 + m) 0 el; omega)⟩
    · by_cases hroom : n + m ≤ cap
      · have hcsz : (xs ++ rest).toArray.size = cap * size := by simpa using h4
        have hfit : n * inf.size + us.length ≤ (xs ++ rest).toArray.size := by rw [hul, hcsz, hsz, ← Nat.add_mul]; exact Nat.mul_le_mul_right _ hroom
        obtain ⟨fr, ho, hfr⟩ := ho
        have hr := run_append_roomF (P := P) w t ty el inf ht hi g n cap (xs ++ rest).toArray fr ho (hfr.imp id fun h => by simpa using h.2) ⟨b, off, none⟩ m xcap us (by rw [hul, hsz]) hnews hus hroom hfit
        refine ⟨_, _, hr, ?_, ⟨rfl, rfl, rfl, by simp, fun k hk => setRow_other _ _ _ _ (by omega)⟩, fun g' _ hne => setRow_other _ _ _ _ (fun e => hne ?_), fun g' hg' => .inl ?_, fun _ => tg _ _ _ hcap⟩
        · refine .inr ⟨g, cap, rest.drop us.length, rfl, hcap, hBg, ?_, hroom, h2, by rw [List.length_append, h3, hul, Nat.add_mul], ?_⟩
          · have hfr2 : fr = (0, 0) ∨ (el = 5 ∧ (xs ++ us ++ rest.drop us.length).length ≤ fr.1) := hfr.imp id fun h => by
              refine ⟨h.1, ?_⟩
              have h := h.2
              have : (n + m) * size ≤ cap * size := Nat.mul_le_mul_right _ hroom
              rw [Nat.add_mul] at this
              simp only [List.length_append, List.length_drop] at h h4 ⊢
              omega
            refine ⟨fr, ?_, hfr2⟩
            rw [setRow_heap w g _ _ el fr ho]
            congr 2
            have e1 : n * inf.size = xs.length := by rw [h3, hsz]
            simp only [e1, List.append_assoc]
            rw [List.take_left, show xs.length + us.length = xs.length + us.length from rfl, ← List.drop_drop, List.drop_left]
          · have : (n + m) * size ≤ cap * size := Nat.mul_le_mul_right _ hroom
            rw [Nat.add_mul] at this
            simp only [List.length_append, List.length_drop] at h4 ⊢
            omega
        · subst e
          cases cap with
          | zero => omega
          | succ k => rfl
        · cases cap with
          | zero => omega
          | succ k => simp [rowBlk] at hg' ⊢; exact hg'
      · have holds : ∀ j u, xs[j]? = some u → w.cell? ((⟨g, 0, none⟩ : Addr).add j) = some u := fun j u hj => by rw [addr_add', Nat.zero_add]; exact ho.cell hj
        have hr := run_append_grow (P := P) w t ty el inf z ht hi hz ⟨g, 0, none⟩ n cap xs (by rw [h3, hsz]) holds ⟨b, off, none⟩ m xcap us (by rw [hul, hsz]) hnews (by omega) (by omega) (growslice_fits (by omega) hbytes)
        have hg := grown n xs cap _ hmax h3 rfl
        have e : (xs.toArray ++ us.toArray) = (xs ++ us).toArray := by simp
        rw [e] at hr
        exact ⟨_, _, hr, hg.1, hg.2.1, fun g hlt _ => hg.2.2.1 g hlt, fun g h => .inr (hg.2.2.2 g h), fun _ => tg _ _ _ (by have := grownCap_ge w (n + m) cap el; omega)⟩
/-- the data of a slice that is appended -/
def srcL (mem : List Blk) (e : Sh) : AV → Option (List e.T)
  | .sl e' l => if h : e' = e then some (h ▸ l) else none
  | .row r =>
    match lk mem r with
    | .row _ e' l => if h : e' = e then some (h ▸ l) else none
    | _ => none
  | .sub r size lo n =>
    match lk mem r with
    | .row _ e' l => if h : e' = e then (if size = e'.size then some (h ▸ ((l.take (lo + n)).drop lo)) else none) else none
    | _ => none
  | .nilS => some []
  | .emp => some []
  | _ => none
theorem SubR.view {B : Nat} {w : World} {fz : Nat → Prop} {t : TypeId} {e : Sh} {l : List e.T} {rv v : Value} {lo n : Nat} (hs : SubR e.size lo n rv v) {cs : List Value} (hrow : RowV B w t e.size rv l.length cs) (hcat : CatR (ShR w fz e) l cs) :
    ∃ us, SrcV w e.size v n us ∧ CatR (ShR w fz e) ((l.take (lo + n)).drop lo) us := by
  obtain ⟨ad, N, cap, a', rfl, hN, hcm, rfl, hle, ha⟩ := hs
  have hNl : N = l.length := by obtain ⟨a1, c1, e1, _⟩ := hrow.slice; exact (Value.slice.inj e1).2.1
  obtain ⟨c1, c2, c3, rfl, hl1, hc2⟩ := CatR.sub (fun y c hy => ShR.length e y c hy) hcat (lo := lo) (hi := lo + n) (by omega) (by omega)
  have hc2l := CatR.length (fun y c hy => ShR.length e y c hy) _ _ hc2
  rw [List.length_drop, List.length_take, show min (lo + n) l.length - lo = n by omega] at hc2l
  refine ⟨c2, ⟨hc2l, _, cap - lo, rfl, fun h0 => ?_⟩, hc2⟩
  rcases hrow with ⟨hn0, hnil, _⟩ | ⟨g, cap2, rest, hval, hcap, _, ho, _⟩
  · have := congrArg List.length hnil
    simp only [List.length_append, List.length_nil] at this
    have hz : n * e.size = 0 := by omega
    omega
  · obtain ⟨rfl, rfl, rfl⟩ := Value.slice.inj hval
    refine ⟨g, lo * e.size, ?_, fun i u hi => ?_⟩
    · rw [ha (by omega), Option.map_some, addr_add', Nat.zero_add]
    · rw [← hl1]
      have hlt : i < c2.length := (List.getElem?_eq_some_iff.1 hi).1
      exact ho.cell (by rw [List.append_assoc, List.getElem?_append_right (by omega), show c1.length + i - c1.length = i by omega, List.getElem?_append_left hlt]; exact hi)
theorem src_of {w : World} {fz : Nat → Prop} {e : Sh} {l : List e.T} {v : Value} (h : ShR w fz (.sl e) l [v]) : ∃ us, SrcV w e.size v l.length us ∧ CatR (ShR w fz e) l us := by
  obtain ⟨ad, cap, e1, _, _, hx⟩ := h
  obtain rfl : v = .slice ad l.length cap := by simpa using e1
  rcases Nat.eq_zero_or_pos l.length with h0 | h0
  · have hl := List.length_eq_zero_iff.1 h0
    subst hl
    exact ⟨[], ⟨by simp, ad, cap, rfl, fun h => absurd h (by simp)⟩, rfl⟩
  · obtain ⟨b, off, cells, rfl, _, _, hcat, hcell⟩ := hx h0
    exact ⟨cells, ⟨CatR.length (fun y c hy => ShR.length e y c hy) _ _ hcat, _, cap, rfl, fun _ => ⟨b, off, rfl, hcell⟩⟩, hcat⟩
theorem RowV.src {B : Nat} {w : World} {t : TypeId} {size n : Nat} {v : Value} {cs : List Value} (h : RowV B w t size v n cs) : SrcV w size v n cs := by
  rcases h with ⟨rfl, rfl, a, rfl⟩ | ⟨g, cap, rest, rfl, hcap, hBg, ho, h1, h2, h3, h4⟩
  · exact ⟨by simp, a, 0, rfl, fun h => absurd h (by simp)⟩
  · exact ⟨h3, _, cap, rfl, fun _ => ⟨g, 0, rfl, fun i u hi => by rw [Nat.zero_add]; exact ho.cell hi⟩⟩
theorem srcL_ok {B : Nat} {w : World} {G : Gh} {mem : List Blk} (hm : MemR B w G mem) {e : Sh} {x : AV} {l : List e.T} {v : Value} (h : srcL mem e x = some l) (hv : ValR w G x v) : ∃ us, SrcV w e.size v l.length us ∧ CatR (ShR w G.fz e) l us := by
  cases x with
  | sl e' l' =>
    simp only [srcL] at h
    split at h
    · rename_i he
      subst he
      simp only [Option.some.injEq] at h
      subst h
      exact src_of (show ShR w G.fz (.sl e') l' [v] from hv)
    · cases h
  | row r =>
    simp only [srcL] at h
    split at h
    · rename_i t e' l' hlk
      split at h
      · rename_i he
        subst he
        simp only [Option.some.injEq] at h
        subst h
        obtain ⟨e1, _⟩ := (show [v] = [G.rowv r] ∧ _ from hv)
        obtain rfl : v = G.rowv r := by simpa using e1
        have hb := hm.blk r
        rw [hlk] at hb
        obtain ⟨_, cs, hrow, hcat⟩ := hb
        exact ⟨cs, hrow.src, hcat⟩
      · cases h
    · cases h
  | sub r size lo n =>
    simp only [srcL] at h
    split at h
    · rename_i t e' l' hlk
      split at h
      · rename_i he
        subst he
        split at h
        · rename_i hz
          subst hz
          simp only [Option.some.injEq] at h
          subst h
          obtain ⟨v', e1, hs⟩ := (show ∃ v', [v] = [v'] ∧ SubR e'.size lo n (G.rowv r) v' from hv)
          obtain rfl : v = v' := by simpa using e1
          have hb := hm.blk r
          rw [hlk] at hb
          obtain ⟨_, cs, hrow, hcat⟩ := hb
          obtain ⟨us, h1, h2⟩ := hs.view hrow hcat
          have hlen : ((l'.take (lo + n)).drop lo).length = n := by
            obtain ⟨ad, N, cap, a', e3, hN, _, _, hle, _⟩ := hs
            obtain ⟨a1, c1, e4, _⟩ := hrow.slice
            rw [e3] at e4
            have := (Value.slice.inj e4).2.1
            rw [List.length_drop, List.length_take]; omega
          exact ⟨us, by rw [hlen]; exact h1, h2⟩
        · cases h
      · cases h
    · cases h
  | nilS =>
    simp only [srcL, Option.some.injEq] at h
    subst h
    obtain rfl : v = .slice none 0 0 := by have : [v] = [Value.slice none 0 0] := hv; simpa using this
    exact ⟨[], ⟨by simp, none, 0, rfl, fun h => absurd h (by simp)⟩, rfl⟩
  | emp =>
    simp only [srcL, Option.some.injEq] at h
    subst h
    obtain ⟨a, e1⟩ := (show ∃ a, [v] = [Value.slice a 0 0] from hv)
    obtain rfl : v = .slice a 0 0 := by simpa using e1
    exact ⟨[], ⟨by simp, a, 0, rfl, fun h => absurd h (by simp)⟩, rfl⟩
  | _ => cases h
/-- the element type of a slice that may be appended to: its shape and what must hold of it -/
def elemOk (P : Program) (el : TypeId) (e : Sh) : Bool :=
  match P.info? el with
  | some inf =>
    match inf.zero with
    | some z => decide (z.cells.size = e.size) && (decide (inf.size = e.size) && (decide (0 < e.size) && decide (inf.bytes ≤ 4096)))
    | none => false
  | none => false
theorem elemOk_ok {P : Program} {el : TypeId} {e : Sh} (h : elemOk P el e = true) : ∃ inf z, P.info? el = some inf ∧ inf.zero = some z ∧ z.cells.size = e.size ∧ inf.size = e.size ∧ 0 < e.size ∧ inf.bytes ≤ 4096 := by
  unfold elemOk at h
  split at h
  · rename_i inf hi
    split at h
    · rename_i z hz
      simp only [Bool.and_eq_true, decide_eq_true_eq] at h
      exact ⟨inf, z, hi, hz, h.1, h.2.1, h.2.2.1, h.2.2.2⟩
    · cases h
  · cases h
/-- is this a slice that is nil or has room? -/
def Blk.isB : Blk → Bool
  | .bbuf _ _ _ => true
  | _ => false
def mkRow (b : Bool) (t : TypeId) (e : Sh) (l : List e.T) : Blk := match b with | true => .bbuf t e l | false => .row t e l
/-- what may be appended to -/
def dstL (mem : List Blk) (a : AV) : Option (Nat × TypeId × (Σ e : Sh, List e.T)) :=
  match a with
  | .row r =>
    match lk mem r with
    | .row T e l => some (r, T, ⟨e, l⟩)
    | .bbuf T e l => some (r, T, ⟨e, l⟩)
    | _ => none
  | .sub r size 0 n =>
    match lk mem r with
    | .row T e l => if size = e.size then some (r, T, ⟨e, l.take n⟩) else none
    | _ => none
  | _ => none
theorem dstL_ok {B : Nat} {w : World} {G : Gh} {mem : List Blk} (hm : MemR B w G mem) {sv : AV} {v : Value} {r : Nat} {T : TypeId} {e : Sh} {l : List e.T} (h : dstL mem sv = some (r, T, ⟨e, l⟩)) (hv : ValR w G sv v) :
    ∃ cs, RowV B w T e.size v l.length cs ∧ CatR (ShR w G.fz e) l cs ∧ (lk mem r).live G r = rowBlk v ∧ lk mem r ≠ .dead ∧ ((lk mem r).isB = true → Tight v) := by
  unfold dstL at h
  split at h
  · rename_i r'
    split at h
    · rename_i T' e' l' hlk
      simp only [Option.some.injEq, Prod.mk.injEq, Sigma.mk.injEq] at h
      obtain ⟨rfl, rfl, rfl, h⟩ := h
      obtain rfl := eq_of_heq h
      have hb := hm.blk r'
      rw [hlk] at hb
      obtain ⟨_, cs, hrow, hcat⟩ := hb
      obtain ⟨e1, _⟩ := (show [v] = [G.rowv r'] ∧ _ from hv)
      obtain rfl : v = G.rowv r' := by simpa using e1
      exact ⟨cs, hrow, hcat, by rw [hlk]; rfl, (by rw [hlk]; exact fun h => (by cases h)), (by rw [hlk]; exact fun h => (by cases h))⟩
    · rename_i T' e' l' hlk
      simp only [Option.some.injEq, Prod.mk.injEq, Sigma.mk.injEq] at h
      obtain ⟨rfl, rfl, rfl, h⟩ := h
      obtain rfl := eq_of_heq h
      have hb := hm.blk r'
      rw [hlk] at hb
      obtain ⟨⟨_, cs, hrow, hcat⟩, htt⟩ := hb
      obtain ⟨e1, _⟩ := (show [v] = [G.rowv r'] ∧ _ from hv)
      obtain rfl : v = G.rowv r' := by simpa using e1
      exact ⟨cs, hrow, hcat, by rw [hlk]; rfl, (by rw [hlk]; exact fun h => (by cases h)), fun _ => htt⟩
    · cases h
  · rename_i r' size n
    split at h
    · rename_i T' e' l' hlk
      split at h
      · rename_i hz
        subst hz
        simp only [Option.some.injEq, Prod.mk.injEq, Sigma.mk.injEq] at h
        obtain ⟨rfl, rfl, rfl, h⟩ := h
        obtain rfl := eq_of_heq h
        have hb := hm.blk r'
        rw [hlk] at hb
        obtain ⟨_, cs, hrow, hcat⟩ := hb
        obtain ⟨v', e1, ad, N, cap, a', hrv, hN, hcm, rfl, hle, ha⟩ := (show ∃ v', [v] = [v'] ∧ SubR e'.size 0 n (G.rowv r') v' from hv)
        obtain rfl : v = _ := by simpa using e1
        rw [Nat.zero_add] at hle
        rcases hrow with ⟨hn0, hnil, ax, hval⟩ | ⟨g, cap2, rest, hval, hcap, hBg, ho, h1, h2, h3, h4⟩
        · rw [hval] at hrv
          obtain ⟨rfl, rfl, rfl⟩ := Value.slice.inj hrv
          have hl0 : l' = [] := List.length_eq_zero_iff.1 hn0
          subst hl0
          obtain rfl : n = 0 := by omega
          refine ⟨[], .inl ⟨rfl, rfl, a', rfl⟩, rfl, ?_, (by rw [hlk]; exact fun h => (by cases h)), (by rw [hlk]; exact fun h => (by cases h))⟩
          rw [hlk, Blk.live, hval]; rfl
        · rw [hval] at hrv
          obtain ⟨rfl, rfl, rfl⟩ := Value.slice.inj hrv
          have hnl : n ≤ l'.length := hle
          have hcat2 := hcat
          rw [← List.take_append_drop n l'] at hcat2
          obtain ⟨ca, cb, rfl, k1, k2⟩ := CatR.split hcat2
          have hla := CatR.length (fun y c hy => ShR.length e' y c hy) _ _ k1
          have hlt : (l'.take n).length = n := by rw [List.length_take]; omega
          have ha' : a' = some ⟨g, 0, none⟩ := by rw [ha (by omega)]; simp [Addr.add]
          refine ⟨ca, .inr ⟨g, cap2, cb ++ rest, ?_, hcap, hBg, ?_, by rw [hlt]; omega, h2, hla, ?_⟩, k1, ?_, (by rw [hlk]; exact fun h => (by cases h)), (by rw [hlk]; exact fun h => (by cases h))⟩
          · rw [ha', hlt]
          · obtain ⟨fr, ho, hfr⟩ := ho
            refine ⟨fr, ?_, ?_⟩
            · rw [← List.append_assoc]; exact ho
            · rw [← List.append_assoc]; exact hfr
          · rw [← List.append_assoc]; exact h4
          · rw [hlk, Blk.live, hval, ha']
            cases cap2 with
            | zero => omega
            | succ c => rfl
      · cases h
    · cases h
  · cases h
/-- 'append(s, x...)' -/
def evAppend (P : Program) (ts : List AV) (mem : List Blk) (s x : Operand) (t : TypeId) : Option (AV × List Blk × Prop) :=
  match P.underlying t, ev ts s, ev ts x with
  | some (.slice el), some sv, some xv =>
    match dstL mem sv with
    | some (r, T, ⟨e, l⟩) =>
      match srcL mem e xv with
      | some l' => if T = el ∧ elemOk P el e = true then some (.row mem.length, memPut (mem.set r .dead) mem.length [mkRow (lk mem r).isB el e (l ++ l')], l.length + l'.length ≤ capK P el) else none
      | none => none
    | none =>
    match sv with
    | .nilS =>
      match shOf P 12 el with
      | some e =>
        match srcL mem e xv with
        | some l' => if elemOk P el e = true then some (.row mem.length, memPut mem mem.length [.row el e l'], l'.length ≤ capK P el) else none
        | none => none
      | none => none
    | .emp =>
      match shOf P 12 el with
      | some e =>
        match srcL mem e xv with
        | some l' => if elemOk P el e = true then some (.row mem.length, memPut mem mem.length [.row el e l'], l'.length ≤ capK P el) else none
        | none => none
      | none => none
    | _ => none
  | _, _, _ => none
/-- one new row in place of an old one -/
theorem MemR.newRowAt {B : Nat} {w w' : World} {G : Gh} {mem mem0 : List Blk} {el : TypeId} {e : Sh} {l : List e.T} {us : List Value} {v' : Value} {old : Option Nat} (base : Nat) (hm : MemR B w G mem)
    (hm0 : ∀ i, lk mem0 i = lk mem i ∨ lk mem0 i = .dead) (hold : ∀ i g, old = some g → (lk mem0 i).live G i ≠ some g) (holdB : ∀ g, old = some g → ¬ G.fz g)
    (hrefs : ∀ i r, r ∈ (lk mem i).refs → r ≠ base)
    (hbel : Below B w w') (hblk : ∀ g, g < w.heap.size → old ≠ some g → w'.heap[g]? = w.heap[g]?) (hrow : RowV B w' el e.size v' l.length us) (hnew : ∀ g, rowBlk v' = some g → old = some g ∨ w.heap.size ≤ g) (hcat : CatR (ShR w G.fz e) l us) :
    ∃ G', MemR B w' G' (memPut mem0 base [.row el e l]) ∧ Keeps G.fz G'.fz w w' ∧ (∀ i, i ≠ base → Agree G G' i) ∧ G'.rowv base = v' ∧ G'.fz = G.fz := by
  have hk : Keeps G.fz G.fz w w' := ⟨hbel.size, fun b hf hlt => hblk b hlt (fun ho => holdB b ho hf), fun _ h => h⟩
  let G' : Gh := G.put base (match rowBlk v' with | some g => ⟨g, 0, none⟩ | none => default) v'
  have hag : ∀ i, i ≠ base → Agree G G' i := fun i hi => Gh.put_agree _ _ _ _ _ hi
  have hlv : ∀ i x, i ≠ base → (lk mem0 i).live G' i = some x → (lk mem i).live G i = some x ∧ old ≠ some x := by
    intro i x hi h
    rw [live_agree (lk mem0 i) (hag i hi)] at h
    refine ⟨?_, fun ho => hold i x ho h⟩
    rcases hm0 i with e1 | e1
    · rw [e1] at h; exact h
    · rw [e1] at h; cases h
  have hlk : ∀ i, lk (memPut mem0 base [.row el e l]) i = if i = base then .row el e l else lk mem0 i := by
    intro i
    rw [lk_memPut]
    by_cases h : i = base
    · subst h; rw [if_pos (by simp), if_pos rfl, Nat.sub_self]; rfl
    · rw [if_neg (by simp; omega), if_neg h]
  have hnlive : ∀ x, (Blk.row el e l).live G' base = some x → rowBlk v' = some x := by
    intro x h
    simp only [Blk.live, G', Gh.put, if_true] at h
    exact h
  refine ⟨G', ⟨fun i => ?_, fun i j x hij hi hj => ?_, fun i x hi => ?_, fun b hb => Nat.lt_of_lt_of_le (hm.fz b hb) hbel.size, hm.base.below hbel⟩, hk, fun i hi => hag i hi, by simp [G', Gh.put], rfl⟩
  · rw [hlk]
    split
    · rename_i h
      subst h
      refine ⟨fun g hg => ?_, us, ?_, CatR.mono (fun y c hy => ShR.keep hk e y c hy) _ _ hcat⟩
      · simp only [G', Gh.put, if_true] at hg ⊢
        rw [hg]
      · simpa [G', Gh.put] using hrow
    · rename_i h
      rcases hm0 i with e1 | e1
      · rw [e1]
        refine (hm.blk i).keep hk (hag i h) (fun r hr => hag r (hrefs i r hr)) (Nat.le_refl _) (fun x hx => ?_)
        have hx0 : (lk mem0 i).live G i = some x := by rw [e1]; exact hx
        exact hblk x (hm.own i x hx).2.1 (fun ho => hold i x ho hx0)
      · rw [e1]; trivial
  · rw [hlk] at hi hj
    split at hi <;> split at hj
    · omega
    · rename_i h1 h2
      subst h1
      obtain ⟨h3, h4⟩ := hlv j x h2 hj
      rcases hnew x (hnlive x hi) with h | h
      · exact h4 h
      · have := (hm.own j x h3).2.1; omega
    · rename_i h1 h2
      subst h2
      obtain ⟨h3, h4⟩ := hlv i x h1 hi
      rcases hnew x (hnlive x hj) with h | h
      · exact h4 h
      · have := (hm.own i x h3).2.1; omega
    · rename_i h1 h2
      exact hm.apart i j x hij (hlv i x h1 hi).1 (hlv j x h2 hj).1
  · rw [hlk] at hi
    split at hi
    · rename_i h
      subst h
      have hv := hnlive x hi
      refine ⟨(hrow.blk hv).1, (hrow.blk hv).2, fun hf => ?_⟩
      rcases hnew x hv with h | h
      · exact holdB x h hf
      · have := hm.fz x hf; omega
    · rename_i h
      have := hm.own i x (hlv i x h hi).1
      exact ⟨this.1, Nat.lt_of_lt_of_le this.2.1 hbel.size, this.2.2⟩
theorem MemR.newRow {B : Nat} {w w' : World} {G : Gh} {mem mem0 : List Blk} {el : TypeId} {e : Sh} {l : List e.T} {us : List Value} {v' : Value} {old : Option Nat} (hm : MemR B w G mem)
    (hm0 : ∀ i, lk mem0 i = lk mem i ∨ lk mem0 i = .dead) (hl0 : mem0.length = mem.length) (hold : ∀ i g, old = some g → (lk mem0 i).live G i ≠ some g) (holdB : ∀ g, old = some g → ¬ G.fz g)
    (hrefs : ∀ i r, r ∈ (lk mem i).refs → r < mem.length)
    (hbel : Below B w w') (hblk : ∀ g, g < w.heap.size → old ≠ some g → w'.heap[g]? = w.heap[g]?) (hrow : RowV B w' el e.size v' l.length us) (hnew : ∀ g, rowBlk v' = some g → old = some g ∨ w.heap.size ≤ g) (hcat : CatR (ShR w G.fz e) l us) :
    ∃ G', MemR B w' G' (memPut mem0 mem.length [.row el e l]) ∧ Keeps G.fz G'.fz w w' ∧ (∀ i, i < mem.length → Agree G G' i) ∧ G'.rowv mem.length = v' ∧ G'.fz = G.fz := by
  obtain ⟨G', g1, g2, g3, g4, g5⟩ := hm.newRowAt mem.length hm0 hold holdB (fun i r hr => by have := hrefs i r hr; omega) hbel hblk hrow hnew hcat
  exact ⟨G', g1, g2, fun i hi => g3 i (by omega), g4, g5⟩
/-- a row that is nil or has room, and a row: the one for the other -/
theorem MemR.swapB {B : Nat} {w : World} {G : Gh} {mem mem' : List Blk} {r : Nat} {t : TypeId} {e : Sh} {l : List e.T} (hm : MemR B w G mem) (h1 : ∀ i, i ≠ r → lk mem' i = lk mem i) (h2 : lk mem r = .row t e l) (h3 : lk mem' r = .bbuf t e l) (ht : Tight (G.rowv r)) : MemR B w G mem' := by
  have hlv : ∀ i, (lk mem' i).live G i = (lk mem i).live G i := fun i => by
    by_cases h : i = r
    · subst h; rw [h2, h3]; rfl
    · rw [h1 i h]
  refine ⟨fun i => ?_, fun i j x hij hi hj => ?_, fun i x hi => hm.own i x (by rw [← hlv]; exact hi), hm.fz, hm.base⟩
  · by_cases h : i = r
    · subst h
      rw [h3]
      have := hm.blk i
      rw [h2] at this
      exact ⟨this, ht⟩
    · rw [h1 i h]; exact hm.blk i
  · rw [hlv] at hi hj
    exact hm.apart i j x hij hi hj
theorem evAppend_ok {P : Program} {o : Oper} {ts : List AV} {mem mem' : List Blk} {s x : Operand} {t : TypeId} {av : AV} {C : Prop} (ho : o.op = .call { callee := .builtin .append, args := #[s, x], argTypes := #[t, t] }) (h : evAppend P ts mem s x t = some (av, mem', C)) :
    EffOp P o ts mem (tput ts o.dst av) mem' C := by
  intro B w G a hC hm ht hrt hrm next Q hn
  unfold evAppend at h
  split at h
  · rename_i el sv xv hut hs hx
    have go : ∀ (e : Sh) (n : Nat) (xs : List Value) (l0 l' : List e.T) (mem0 : List Blk) (old : Option Nat), elemOk P el e = true → RowV B w el e.size (a.eval s) n xs → l0.length = n → CatR (ShR w G.fz e) l0 xs → srcL mem e xv = some l' → n + l'.length ≤ capK P el →
        (∀ i, lk mem0 i = lk mem i ∨ lk mem0 i = .dead) → mem0.length = mem.length → rowBlk (a.eval s) = old → (∀ i g, old = some g → (lk mem0 i).live G i ≠ some g) → (∀ g, old = some g → ¬ G.fz g) → ∀ (bb : Bool), (bb = true → Tight (a.eval s)) →
        mem' = memPut mem0 mem.length [mkRow bb el e (l0 ++ l')] → av = .row mem.length → o.wp P a w next Q := by
      intro e n xs l0 l' mem0 old hel hrow hl0 hcat0 hsrc hle hm0 hlen0 hold hold1 hold2 bb hbb hmem hav
      obtain ⟨inf, z, hi, hz, h1, h2, h3, h4⟩ := elemOk_ok hel
      obtain ⟨us, hus, hcat⟩ := srcL_ok hm hsrc (ev_ok ht hx)
      obtain ⟨v', w', hr, hr1, hr2, hr3, hr4, hr5⟩ := run_app (P := P) (ty := o.type) hut hi hz h1 h2 h3 h4 hrow hus (CatR.one' e _ _ hcat) hle hm.base.1
      subst hmem; subst hav
      rw [hold] at hr3 hr4
      obtain ⟨G', g1, g2, g3, g4, g5⟩ := hm.newRow (l := l0 ++ l') hm0 hlen0 hold1 hold2 hrm hr2 hr3 (by rw [List.length_append, hl0]; exact hr1) hr4 (CatR.append hcat0 hcat)
      unfold Oper.wp
      have e1 : (execOp a.eval o).run P w = .ok (.value v') w' := by
        simp only [execOp, ho, resolve, Sem.run_bind, Sem.run_pure, Result.andThen_ok, invoke, builtin, List.map_toArray, List.map_cons, List.map_nil, hr]
      rw [e1]
      have g1' : MemR B w' G' (memPut mem0 mem.length [mkRow bb el e (l0 ++ l')]) := by
        cases bb with
        | false => exact g1
        | true =>
          have k : ∀ (x : Blk) (i : Nat), lk (memPut mem0 mem.length [x]) i = if i = mem.length then x else lk mem0 i := by
            intro x i
            rw [lk_memPut]
            by_cases h : i = mem.length
            · subst h; rw [if_pos (by simp), if_pos rfl, Nat.sub_self]; rfl
            · rw [if_neg (by simp; omega), if_neg h]
          exact g1.swapB (r := mem.length) (fun i hi => by rw [k, k, if_neg hi, if_neg hi]) (by rw [k, if_pos rfl]) (by rw [k, if_pos rfl]; rfl) (by rw [g4]; exact hr5 (hbb rfl))
      refine hn _ w' G' hr2 ⟨fun b h => by rw [g5]; exact h, fun b h => .inl (by rw [g5] at h; exact h), g2.block⟩ g1' ((ht.keep g2 (fun t r hr => g3 r (hrt t r hr))).put _ ?_) (put_defers _ _ _)
      show [v'] = [G'.rowv mem.length] ∧ _
      rw [g4]
      exact ⟨rfl, hr1.one⟩
    split at h
    · rename_i r T e l hdst
      split at h
      · rename_i l' hsrc
        split at h
        · rename_i hcond
          obtain ⟨rfl, hel⟩ := hcond
          simp only [Option.some.injEq, Prod.mk.injEq] at h
          obtain ⟨rfl, rfl, rfl⟩ := h
          obtain ⟨cs, hrow, hcat, hlive, hnd, htt⟩ := dstL_ok hm hdst (ev_ok ht hs)
          have hrl : r < mem.length := lk_lt hnd
          refine go e l.length cs l l' (mem.set r .dead) (rowBlk (a.eval s)) hel hrow rfl hcat hsrc hC (fun i => ?_) (by simp) rfl (fun i g hg hi => ?_) (fun g hg => ?_) _ htt rfl rfl
          · rw [lk_set]; split
            · exact .inr rfl
            · exact .inl rfl
          · rw [lk_set] at hi
            split at hi
            · cases hi
            · rename_i hir
              exact hm.apart i r g (fun e => hir ⟨e, hrl⟩) hi (by rw [hlive]; exact hg)
          · exact (hm.own r g (by rw [hlive]; exact hg)).2.2
        · cases h
      · cases h
    split at h
    · split at h
      · rename_i e hsh
        split at h
        · rename_i l' hsrc
          split at h
          · rename_i hel
            simp only [Option.some.injEq, Prod.mk.injEq] at h
            obtain ⟨rfl, rfl, rfl⟩ := h
            have e2 : a.eval s = .slice none 0 0 := by
              have : [a.eval s] = [Value.slice none 0 0] := ev_ok ht hs
              simpa using this
            exact go e 0 [] [] l' mem none hel (by rw [e2]; exact .inl ⟨rfl, rfl, none, rfl⟩) rfl rfl hsrc (by omega) (fun i => .inl rfl) rfl (by rw [e2]; rfl) (fun i g hg => by cases hg) (fun g hg => by cases hg) false (fun h => by cases h) rfl rfl
          · cases h
        · cases h
      · cases h
    · split at h
      · rename_i e hsh
        split at h
        · rename_i l' hsrc
          split at h
          · rename_i hel
            simp only [Option.some.injEq, Prod.mk.injEq] at h
            obtain ⟨rfl, rfl, rfl⟩ := h
            obtain ⟨ad, e1⟩ := (show ∃ ad, [a.eval s] = [Value.slice ad 0 0] from ev_ok ht hs)
            have e2 : a.eval s = .slice ad 0 0 := by simpa using e1
            exact go e 0 [] [] l' mem none hel (by rw [e2]; exact .inl ⟨rfl, rfl, ad, rfl⟩) rfl rfl hsrc (by omega) (fun i => .inl rfl) rfl (by rw [e2]; rfl) (fun i g hg => by cases hg) (fun g hg => by cases hg) false (fun h => by cases h) rfl rfl
          · cases h
        · cases h
      · cases h
    · cases h
  · cases h
end Go.Proofs.YtbpjinefbnlenaaGreatDoor
