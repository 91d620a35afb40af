/- A machine of values, part 14b: operations that write one block: stores, 'copy', 'clear', a text's next rune, a map's entry. -/
import Derived.Test.YtbpjinefbnlenaaGreatDoorAm14a
namespace Go.Proofs.YtbpjinefbnlenaaGreatDoor
open Go Go.RowKit
set_option linter.unusedVariables false

/-- a row with a part of it replaced -/
def splice {α : Type} (l : List α) (lo : Nat) (x : List α) : List α := l.take lo ++ x ++ l.drop (lo + x.length)
theorem splice_length {α : Type} (l : List α) (lo : Nat) (x : List α) (h : lo + x.length ≤ l.length) : (splice l lo x).length = l.length := by
  simp [splice]; omega
/-- the block that a slice of the call's own lies in: its number, the size of an element, from which element on, how many -/
def dstR (mem : List Blk) (a : AV) : Option (Nat × Nat × Nat × Nat) :=
  match a with
  | .row r =>
    match lk mem r with
    | .row _ e l => some (r, e.size, 0, l.length)
    | _ => none
  | .sub r size lo n => some (r, size, lo, n)
  | _ => none
theorem row_write {P : Program} {B : Nat} {w : World} {G : Gh} {mem : List Blk} (hm : MemR B w G mem) {dv : AV} {v : Value} {r size lo n : Nat} (hd : dstR mem dv = some (r, size, lo, n)) (hv : ValR w G dv v) {T : TypeId} {e : Sh} {l : List e.T} (hlk : lk mem r = .row T e l) (hz : size = e.size)
    {x : List e.T} {us : List Value} (hx : CatR (ShR w G.fz e) x us) (hxn : x.length ≤ n) :
    ∃ ad cap, v = .slice ad n cap ∧ lo + n ≤ l.length ∧ (0 < us.length → ad.isSome) ∧ ∀ ad', (ad = some ad' ∨ us = []) → ∃ w', (storeCells ad' us).run P w = .ok () w' ∧ Below B w w' ∧ Keeps G.fz G.fz w w' ∧ MemR B w' G (mem.set r (.row T e (splice l lo x))) := by
  subst hz
  have hb := hm.blk r
  rw [hlk] at hb
  obtain ⟨h0, cs, hrow, hcat⟩ := hb
  have huslen := CatR.length (fun y c hy => ShR.length e y c hy) _ _ hx
  -- the slice's form
  have form : ∃ ad cap N cap0 ad0, v = .slice ad n cap ∧ G.rowv r = .slice ad0 N cap0 ∧ N = l.length ∧ lo + n ≤ N ∧ N ≤ cap0 ∧ (lo < cap0 → ad = ad0.map (·.add (lo * e.size))) := by
    obtain ⟨a1, c1, e4, hl1, hm1, _⟩ := hrow.slice
    unfold dstR at hd
    split at hd
    · rename_i r'
      split at hd
      · rename_i T2 e2 l2 hlk2
        simp only [Option.some.injEq, Prod.mk.injEq] at hd
        obtain ⟨rfl, hs2, rfl, rfl⟩ := hd
        rw [hlk] at hlk2
        injection hlk2 with q1 q2 q3
        subst q2
        obtain rfl := eq_of_heq q3
        obtain ⟨e5, _⟩ := (show [v] = [G.rowv r'] ∧ _ from hv)
        obtain rfl : v = G.rowv r' := by simpa using e5
        refine ⟨a1, c1, _, c1, a1, e4, e4, rfl, by omega, hl1, fun _ => ?_⟩
        cases a1 <;> simp [Addr.add]
      · cases hd
    · simp only [Option.some.injEq, Prod.mk.injEq] at hd
      obtain ⟨rfl, rfl, rfl, rfl⟩ := hd
      rename_i r' 
      obtain ⟨v', e5, ad, N, cap, a', hrv, hN, hcm, rfl, hle, ha⟩ := (show ∃ v', [v] = [v'] ∧ SubR _ _ _ _ v' from hv)
      obtain rfl : v = _ := by simpa using e5
      rw [e4] at hrv
      obtain ⟨rfl, rfl, rfl⟩ := Value.slice.inj hrv
      exact ⟨a', _, _, c1, a1, rfl, e4, rfl, hle, hN, ha⟩
    · cases hd
  obtain ⟨ad, cap, N, cap0, ad0, hv1, hrv, hN, hle, hNc, hadd⟩ := form
  subst hN
  refine ⟨ad, cap, hv1, hle, fun hus => ?_, fun ad' hor => ?_⟩
  · have hpos : 0 < x.length := by
      rcases Nat.eq_zero_or_pos x.length with h | h
      · rw [h, Nat.zero_mul] at huslen; omega
      · exact h
    rcases hrow with ⟨hn0, _⟩ | ⟨g, cap2, rest, hval, hcap, hBg, ho, h1, h2, h3, h4⟩
    · omega
    · rw [hval] at hrv
      obtain ⟨rfl, _, rfl⟩ := Value.slice.inj hrv
      rw [hadd (by omega)]; rfl
  · rcases Nat.eq_zero_or_pos us.length with hus | hus
    · have hus0 := List.length_eq_zero_iff.1 hus
      refine ⟨w, by rw [hus0]; simp [storeCells, Sem.run_pure], Below.refl _ _, ⟨Nat.le_refl _, fun _ _ _ => rfl, fun _ h => h⟩, ?_⟩
      -- nothing is written
      have hb2 : BlkR B w G r (.row T e (splice l lo x)) := by
        have hlen : (splice l lo x).length = l.length := splice_length _ _ _ (by omega)
        refine ⟨h0, cs, by rw [hlen]; exact hrow, ?_⟩
        -- elements of no size, or no elements
        have hcat2 := hcat
        rw [show l = l.take lo ++ ((l.drop lo).take x.length ++ l.drop (lo + x.length)) by rw [← List.drop_drop, List.take_append_drop, List.take_append_drop]] at hcat2
        obtain ⟨ca, cb, rfl, k1, k2⟩ := CatR.split hcat2
        obtain ⟨cc, cd, rfl, k3, k4⟩ := CatR.split k2
        have k3l := CatR.length (fun y c hy => ShR.length e y c hy) _ _ k3
        have : cc = [] := by
          apply List.length_eq_zero_iff.1
          rw [k3l, List.length_take, List.length_drop, show min x.length (l.length - lo) = x.length by omega, ← huslen, hus]
        subst this
        rw [hus0] at hx
        have := CatR.append k1 (CatR.append hx k4)
        simpa [splice, List.append_assoc] using this
      refine ⟨fun i => ?_, fun i j y hij hi hj => ?_, fun i y hi => ?_, hm.fz, hm.base⟩
      · rw [lk_set]
        split
        · rename_i h; rw [h.1]; exact hb2
        · exact hm.blk i
      · have e1 : ∀ i, (lk (mem.set r (.row T e (splice l lo x))) i).live G i = (lk mem i).live G i := by
          intro i
          rw [lk_set]
          split
          · rename_i h; rw [h.1, hlk]; rfl
          · rfl
        rw [e1] at hi hj
        exact hm.apart i j y hij hi hj
      · rw [lk_set] at hi
        split at hi
        · rename_i h
          exact hm.own i y (by rw [h.1, hlk]; rw [h.1] at hi; exact hi)
        · exact hm.own i y hi
    · have hpos : 0 < x.length := by
        rcases Nat.eq_zero_or_pos x.length with h | h
        · rw [h, Nat.zero_mul] at huslen; omega
        · exact h
      have hadS : ad = some ad' := hor.resolve_right (fun h => by rw [h] at hus; simp at hus)
      rcases hrow with ⟨hn0, _⟩ | ⟨g, cap2, rest, hval, hcap, hBg, ho, h1, h2, h3, h4⟩
      · omega
      · rw [hval] at hrv
        obtain ⟨rfl, _, rfl⟩ := Value.slice.inj hrv
        have had' : ad' = ⟨g, lo * e.size, none⟩ := by
          have := hadd (by omega)
          rw [hadS, Option.map_some, addr_add', Nat.zero_add] at this
          exact Option.some.inj this
        subst had'
        have hcat2 := hcat
        rw [show l = l.take lo ++ ((l.drop lo).take x.length ++ l.drop (lo + x.length)) by rw [← List.drop_drop, List.take_append_drop, List.take_append_drop]] at hcat2
        obtain ⟨ca, cb, rfl, k1, k2⟩ := CatR.split hcat2
        obtain ⟨cc, cd, rfl, k3, k4⟩ := CatR.split k2
        have k1l := CatR.length (fun y c hy => ShR.length e y c hy) _ _ k1
        have k3l := CatR.length (fun y c hy => ShR.length e y c hy) _ _ k3
        rw [List.length_take, show min lo l.length = lo by omega] at k1l
        rw [List.length_take, List.length_drop, show min x.length (l.length - lo) = x.length by omega] at k3l
        rw [← List.append_assoc] at ho h3 h4
        obtain ⟨w', hr, hs, hoth, hat', hbel⟩ := run_storeOwn (P := P) (vs := us) ho (by rw [huslen, k3l]) (CatR.one' e _ _ hx)
        rw [k1l] at hr
        have hg := h0 g (by rw [hval]; cases cap2 with | zero => omega | succ c => rfl)
        have hlive : (lk mem r).live G r = some g := by
          rw [hlk, Blk.live, hval]
          cases cap2 with | zero => omega | succ c => rfl
        have hown := hm.own r g hlive
        have hk0 : Keeps G.fz G.fz w w' := ⟨by omega, fun k hf' _ => hoth k (fun e => hown.2.2 (e ▸ hf')), fun _ h => h⟩
        have hlen : (splice l lo x).length = l.length := splice_length _ _ _ (by omega)
        obtain ⟨hm', hk⟩ := hm.write (x := .row T e (splice l lo x)) hlive hs hoth ⟨h0, ca ++ us ++ cd, .inr ⟨g, cap2, rest, by rw [hval, hlen], hcap, hBg, hat', by rw [hlen]; exact h1, h2, by rw [hlen, ← h3]; simp only [List.length_append, huslen, k3l], by rw [← h4]; simp only [List.length_append, huslen, k3l]⟩, by
          have := CatR.append k1 (CatR.append hx k4)
          refine CatR.mono (fun y c hy => ShR.keep hk0 e y c hy) _ _ ?_
          simpa [splice, List.append_assoc] using this⟩ (by
            rw [Blk.live, hval]
            cases cap2 with | zero => omega | succ c => rfl)
        exact ⟨w', hr, hbel.mono hown.1, hk, hm'⟩
theorem obj_write {B : Nat} {w : World} {G : Gh} {mem : List Blk} (hm : MemR B w G mem) {b g : Nat} {blk : Blk} {o : Obj} (hl : (lk mem b).live G b = some g) (hb : BlkR B { w with heap := w.heap.setIfInBounds g o } G b blk) (hbl : blk.live G b = some g) :
    Below B w { w with heap := w.heap.setIfInBounds g o } ∧ Keeps G.fz G.fz w { w with heap := w.heap.setIfInBounds g o } ∧ MemR B { w with heap := w.heap.setIfInBounds g o } G (mem.set b blk) := by
  have hown := hm.own b g hl
  have hoth : ∀ k, k ≠ g → (w.heap.setIfInBounds g o)[k]? = w.heap[k]? := fun k hk => by rw [Array.getElem?_setIfInBounds, if_neg (Ne.symm hk)]
  obtain ⟨h1, h2⟩ := hm.write (w' := { w with heap := w.heap.setIfInBounds g o }) (x := blk) hl (by simp) hoth hb hbl
  exact ⟨⟨rfl, rfl, rfl, by simp, fun k hk => hoth k (by omega)⟩, h2, h1⟩
/-! the next rune of a text -/
def runeAt (s : List UInt8) (pos : Nat) : Nat × Nat := Utf8.decode ⟨s.toArray⟩ pos
theorem next_ok {P : Program} {o : Oper} {ts : List AV} {mem : List Blk} {it : Operand} {b pos : Nat} {s : List UInt8} (ho : o.op = .next it true) (hi : ev ts it = some (.ptr b [])) (hlk : lk mem b = .iter s pos) :
    FxOk P o ts mem b (.iter s (pos + (runeAt s pos).2)) (.tup (.cons (.bool true) (.cons (.int .i64 (pos : Int)) (.cons (.int .i32 ((runeAt s pos).1 : Int)) .nil)))) (pos < s.length) ∧
    FxOk P o ts mem b (.iter s pos) (.tup (.cons (.bool false) .nil)) (¬ pos < s.length) := by
  have base : ∀ (B : Nat) (w : World) (G : Gh) (a : Act), MemR B w G mem → TmpsR w G ts a → a.eval it = .pointer (some ⟨(G.addr b).block, 0, none⟩) ∧ (G.addr b).off = 0 ∧ w.heap[(G.addr b).block]? = some (.stringIter ⟨s.toArray⟩ pos) ∧ (lk mem b).live G b = some (G.addr b).block := by
    intro B w G a hm ht
    have hb := hm.blk b
    rw [hlk] at hb
    obtain ⟨h0, h1⟩ := hb
    have := val_ptr (ev_ok ht hi)
    rw [h0] at this
    exact ⟨this, h0, h1, by rw [hlk]; rfl⟩
  constructor
  · intro B w G a hC hm ht next Q hn
    obtain ⟨e1, h0, h1, hl⟩ := base B w G a hm ht
    have hb2 : BlkR B { w with heap := w.heap.setIfInBounds (G.addr b).block (.stringIter ⟨s.toArray⟩ (pos + (runeAt s pos).2)) } G b (.iter s (pos + (runeAt s pos).2)) := by
      refine ⟨h0, ?_⟩
      have hlt := (Array.getElem?_eq_some_iff.1 h1).1
      simp [hlt]
    obtain ⟨k1, k2, k3⟩ := obj_write hm hl hb2 rfl
    have hsz : pos < (⟨s.toArray⟩ : ByteArray).size := by rw [str_size]; exact hC
    unfold Oper.wp
    have e2 : (execOp a.eval o).run P w = .ok (.value (.tuple #[.bool true, .int .i64 pos, .int .i32 (runeAt s pos).1])) { w with heap := w.heap.setIfInBounds (G.addr b).block (.stringIter ⟨s.toArray⟩ (pos + (runeAt s pos).2)) } := by
      simp only [execOp, ho, e1, Instr.next, getObj, setObj, Sem.run_bind, Sem.run, h1, Result.andThen, hsz, if_true]
      simp [goInt, runeAt]
    rw [e2]
    exact hn _ _ k1 k2 k3 ⟨_, rfl, _, _, rfl, rfl, _, _, rfl, rfl, _, _, rfl, rfl, rfl⟩
  · intro B w G a hC hm ht next Q hn
    obtain ⟨e1, h0, h1, hl⟩ := base B w G a hm ht
    have hsz : ¬ pos < (⟨s.toArray⟩ : ByteArray).size := by rw [str_size]; exact hC
    unfold Oper.wp
    have e2 : (execOp a.eval o).run P w = .ok (.value (.tuple #[.bool false])) w := by
      simp only [execOp, ho, e1, Instr.next, getObj, Sem.run_bind, Sem.run, h1, Result.andThen, hsz, if_false]
      simp
    rw [e2]
    refine hn _ _ (Below.refl _ _) ⟨Nat.le_refl _, fun _ _ _ => rfl, fun _ h => h⟩ ?_ ⟨_, rfl, _, _, rfl, rfl, rfl⟩
    have hset : mem.set b (.iter s pos) = mem := by
      rw [← hlk]
      have hlt : b < mem.length := lk_lt (by rw [hlk]; exact fun h => by cases h)
      apply List.ext_getElem?
      intro i
      rw [List.getElem?_set]
      by_cases hi : b = i
      · subst hi; simp [hlt, lk, List.getD]
      · simp [hi]
    rw [hset]; exact hm
/-! an entry of a map -/
def Sh.keyish : Sh → Bool
  | .pair a b => a.keyish && b.keyish
  | .st a => a.keyish
  | .int _ | .bool | .str | .unit => true
  | _ => false
theorem keyish_noArr : ∀ (s : Sh), s.keyish = true → s.noArr = true
  | .int _, _ | .bool, _ | .str, _ | .unit, _ | .sl _, _ => rfl
  | .pair a b, h => by
    simp only [Sh.keyish, Bool.and_eq_true] at h
    simp [Sh.noArr, keyish_noArr a h.1, keyish_noArr b h.2]
  | .st a, h => keyish_noArr a h
  | .arr _ _, h => by cases h
theorem keyish_eq : ∀ (s : Sh) (x y : s.T), s.keyish = true → s.beq x y = true → x = y
  | .int _, x, y, _, h => by simpa [Sh.beq] using h
  | .bool, x, y, _, h => by simpa [Sh.beq] using h
  | .str, x, y, _, h => by simpa [Sh.beq] using h
  | .unit, _, _, _, _ => rfl
  | .pair a b, x, y, hk, h => by
    simp only [Sh.keyish, Bool.and_eq_true] at hk
    simp only [Sh.beq, Bool.and_eq_true] at h
    exact Prod.ext (keyish_eq a _ _ hk.1 h.1) (keyish_eq b _ _ hk.2 h.2)
  | .st a, x, y, hk, h => keyish_eq a x y hk h
  | .arr _ _, _, _, hk, _ => by cases hk
  | .sl _, _, _, hk, _ => by cases hk
theorem keyish_cells {w : World} {fz : Nat → Prop} : ∀ (s : Sh) (x : s.T) (cs ds : List Value), s.keyish = true → ShR w fz s x cs → ShR w fz s x ds → cs = ds ∧ ∀ v ∈ cs, ∀ n, Instr.sameBits n v v = true
  | .int _, x, cs, ds, _, h, h' => by simp only [ShR] at h h'; subst h; subst h'; exact ⟨rfl, fun v hv n => by simp at hv; subst hv; simp [Instr.sameBits]⟩
  | .bool, x, cs, ds, _, h, h' => by simp only [ShR] at h h'; subst h; subst h'; exact ⟨rfl, fun v hv n => by simp at hv; subst hv; simp [Instr.sameBits]⟩
  | .str, x, cs, ds, _, h, h' => by
    simp only [ShR] at h h'; subst h; subst h'
    refine ⟨rfl, fun v hv n => ?_⟩
    simp at hv; subst hv
    simp only [Instr.sameBits]
    rw [show ((⟨List.toArray x⟩ : ByteArray) == ⟨List.toArray x⟩) = (List.toArray x == List.toArray x) from rfl]
    simp
  | .unit, x, cs, ds, _, h, h' => by simp only [ShR] at h h'; subst h; subst h'; exact ⟨rfl, fun v hv => by simp at hv⟩
  | .pair a b, x, cs, ds, hk, h, h' => by
    simp only [Sh.keyish, Bool.and_eq_true] at hk
    obtain ⟨c1, c2, rfl, h1, h2⟩ := h
    obtain ⟨d1, d2, rfl, h3, h4⟩ := h'
    obtain ⟨e1, e2⟩ := keyish_cells a _ _ _ hk.1 h1 h3
    obtain ⟨e3, e4⟩ := keyish_cells b _ _ _ hk.2 h2 h4
    refine ⟨by rw [e1, e3], fun v hv => ?_⟩
    rcases List.mem_append.1 hv with h | h
    · exact e2 v h
    · exact e4 v h
  | .st a, x, cs, ds, hk, h, h' => keyish_cells a x cs ds hk h h'
  | .arr _ _, _, _, _, hk, _, _ => by cases hk
  | .sl _, _, _, _, hk, _, _ => by cases hk
theorem keyish_same {P : Program} {w : World} {G : Gh} {n : Nat} {t : TypeId} {s : Sh} {x : s.T} {u v : Value} (he : eqTy P n t s = true) (hk : s.keyish = true) (hu : ValR0 w G (s.av x) u) (hv : ValR0 w G (s.av x) v) : u = v ∧ Instr.sameBits 10000 u u = true := by
  have flat : flatSh s = true → u = v ∧ Instr.sameBits 10000 u u = true := by
    intro hf
    have h1 := (flatSh_val hf).1 hu
    have h2 := (flatSh_val hf).1 hv
    obtain ⟨e1, e2⟩ := keyish_cells s x _ _ hk h1 h2
    exact ⟨(List.cons.inj e1).1, e2 u (by simp) _⟩
  cases s with
  | int _ => exact flat rfl
  | bool => exact flat rfl
  | str => exact flat rfl
  | st a =>
    obtain ⟨cs, rfl, hc⟩ := hu
    obtain ⟨ds, rfl, hd⟩ := hv
    obtain ⟨e1, e2⟩ := keyish_cells a x _ _ hk ((CellsR.av a x _).1 hc) ((CellsR.av a x _).1 hd)
    have e3 : cs = ds := Array.ext' e1
    subst e3
    refine ⟨rfl, ?_⟩
    rw [Instr.sameBits]
    simp only [beq_self_eq_true, Bool.true_and, List.all_eq_true]
    rintro ⟨p, q⟩ hpq
    obtain ⟨i, hi⟩ := List.getElem?_of_mem hpq
    rw [List.getElem?_zip_eq_some] at hi
    obtain ⟨g1, g2⟩ := hi
    simp only at g1 g2
    rw [g1] at g2
    obtain rfl := Option.some.inj g2
    exact e2 p (List.mem_of_getElem? g1) _
  | arr m a => cases hk
  | _ => cases n <;> simp [eqTy] at he
theorem AllR.append {α β : Type} {R : α → β → Prop} : ∀ {l : List α} {m : List β} {l' : List α} {m' : List β}, AllR R l m → AllR R l' m' → AllR R (l ++ l') (m ++ m')
  | [], m, l', m', h, h' => by simp only [AllR] at h; subst h; exact h'
  | x :: l, m, l', m', ⟨y, t, e, h1, h2⟩, h' => ⟨y, t ++ m', by rw [e]; rfl, h1, AllR.append h2 h'⟩
theorem AllR.modify {α β : Type} {R : α → β → Prop} {x : α} {f : β → β} : ∀ {l : List α} {m : List β} {i : Nat}, AllR R l m → (∀ y, m[i]? = some y → R x (f y)) → AllR R (l.modify i fun _ => x) (m.modify i f)
  | [], m, i, h, _ => by simp only [AllR] at h; subst h; simp [AllR]
  | a :: l, m, 0, ⟨y, t, e, h1, h2⟩, hx => by subst e; exact ⟨f y, t, rfl, hx y rfl, h2⟩
  | a :: l, m, i + 1, ⟨y, t, e, h1, h2⟩, hx => by
    subst e
    exact ⟨y, t.modify i f, rfl, h1, AllR.modify h2 (fun z hz => hx z (by simpa using hz))⟩
def evPut (P : Program) (mem : List Blk) (t : TypeId) (m k v : AV) : Option (Nat × Blk) :=
  match m with
  | .mp r =>
    match lk mem r, P.underlying t with
    | .map t' ks e l, some (.map kt et) =>
      match AV.toSh ks k, AV.toSh e v with
      | some kx, some vx =>
        if t' = t ∧ eqTy P 12 kt ks = true ∧ ks.keyish = true ∧ (k.agg || (k.flat && flatSh ks)) = true ∧ (v.agg || (v.flat && flatSh e)) = true then some (r, .map t ks e (mapPut ks e kx vx l)) else none
      | _, _ => none
    | _, _ => none
  | _ => none
theorem evPut_ok {P : Program} {o : Oper} {ts : List AV} {mem : List Blk} {t : TypeId} {m k v : Operand} {am ak av : AV} {b : Nat} {blk : Blk} (ho : o.op = .mapUpdate t m k v) (h1 : ev ts m = some am) (h2 : ev ts k = some ak) (h3 : ev ts v = some av) (h : evPut P mem t am ak av = some (b, blk)) :
    FxOk P o ts mem b blk .unk True := by
  unfold evPut at h
  split at h
  · rename_i r
    split at h
    · rename_i t' ks e l kt et hlk hut
      split at h
      · rename_i kx vx hkx hvx
        split at h
        · rename_i hc
          obtain ⟨rfl, hk, hky, hka, hva⟩ := hc
          simp only [Option.some.injEq, Prod.mk.injEq] at h
          obtain ⟨rfl, rfl⟩ := h
          intro B w G a hC hm ht next Q hn
          have em : a.eval m = .map (some (G.addr r).block) := by simpa using (show [a.eval m] = [Value.map _] from ev_ok ht h1)
          have hkv := toSh_valX hkx hka (ev_ok ht h2)
          have hvv := toSh_valX hvx hva (ev_ok ht h3)
          have hk0 : ValR0 w G (ks.av kx) (a.eval k) := ValR.to0 hkv (by intro b hb; cases ks <;> cases hb)
          have hv0 : ValR0 w G (e.av vx) (a.eval v) := ValR.to0 hvv (by intro b hb; cases e <;> cases hb)
          obtain ⟨es, clock, hobj, hall⟩ := map_at hm hlk
          have hlt := (Array.getElem?_eq_some_iff.1 hobj).1
          have hck := key_ok (em := false) 12 kt ks kx (a.eval k) 9988 hk (keyish_noArr _ hky) hkv
          obtain ⟨rr, hfr, hfound⟩ := findKey_ok hk (by omega) hkv hall
          have hl : (lk mem r).live G r = some (G.addr r).block := by rw [hlk]; rfl
          have fin : ∀ (es' : Array MapEntry) (clock' : Nat) (l' : List (ks.T × e.T)), AllR (EntR w G ks e) l' es'.toList → (Instr.mapUpdate t' (.map (some (G.addr r).block)) (a.eval k) (a.eval v)).run P w = .ok () { w with heap := w.heap.setIfInBounds (G.addr r).block (.map es' clock') } → l' = mapPut ks e kx vx l → o.wp P a w next Q := by
            intro es' clock' l' hall' hrun hl'
            subst hl'
            have hk1 : Keeps G.fz G.fz w { w with heap := w.heap.setIfInBounds (G.addr r).block (.map es' clock') } := by
              refine ⟨by simp, fun q hf _ => ?_, fun _ h => h⟩
              have hown := hm.own r _ hl
              show (w.heap.setIfInBounds _ _)[q]? = _
              rw [Array.getElem?_setIfInBounds, if_neg (show ¬ (G.addr r).block = q from fun h => hown.2.2 (h ▸ hf))]
            have hb2 : BlkR B { w with heap := w.heap.setIfInBounds (G.addr r).block (.map es' clock') } G r (.map t' ks e (mapPut ks e kx vx l)) :=
              ⟨es', clock', by simp [hlt], AllR.mono (fun x y hxy => hxy.keep hk1) _ _ hall'⟩
            obtain ⟨k1, k2, k3⟩ := obj_write hm hl hb2 rfl
            unfold Oper.wp
            have e2 : (execOp a.eval o).run P w = .ok .skip { w with heap := w.heap.setIfInBounds (G.addr r).block (.map es' clock') } := by
              simp only [execOp, ho, em, Sem.run_bind, hrun, Result.andThen_ok, Sem.run_pure]
            rw [e2]
            exact hn undef _ k1 k2 k3 trivial
          cases hmf : mapFind ks e kx l with
          | none =>
            rw [hmf] at hfound
            simp only [Found] at hfound
            subst hfound
            refine fin (es.push { key := a.eval k, val := a.eval v, born := clock }) (clock + 1) (l ++ [(kx, vx)]) ?_ ?_ (by simp [mapPut, hmf])
            · rw [Array.toList_push]
              exact AllR.append hall ⟨_, [], rfl, ⟨hk0, hv0⟩, rfl⟩
            · simp only [Instr.mapUpdate, Sem.run_bind, run_underlying hut, Result.andThen_ok, run_getObj' hobj, hck, hfr]
              simp only [setObj, Sem.run, hobj]
          | some j =>
            rw [hmf] at hfound
            obtain ⟨y, hy, rfl⟩ := hfound
            obtain ⟨q, q1, q2⟩ := AllR.get hall hy
            have hbeq : ks.beq kx q.1 = true := by
              have : ∀ (l : List (ks.T × e.T)) (j : Nat) (q : ks.T × e.T), mapFind ks e kx l = some j → l[j]? = some q → ks.beq kx q.1 = true := by
                intro l
                induction l with
                | nil => intro j q h _; cases h
                | cons a l ih =>
                  intro j q h hq
                  simp only [mapFind] at h
                  cases hb : ks.beq kx a.1 with
                  | true =>
                    rw [hb] at h
                    simp only [cond_true, Option.some.injEq] at h
                    subst h
                    simp at hq; subst hq; exact hb
                  | false =>
                    rw [hb] at h
                    simp only [cond_false, Option.map_eq_some_iff] at h
                    obtain ⟨i, hi, rfl⟩ := h
                    exact ih i q hi (by simpa using hq)
              exact this l j q hmf q1
            have hxq := keyish_eq ks kx q.1 hky hbeq
            obtain ⟨hsame, hbits⟩ := keyish_same hk hky (hxq ▸ q2.1 : ValR0 w G (ks.av kx) y.key) hk0
            refine fin (es.modify j fun z => { z with key := a.eval k, val := a.eval v }) clock (l.modify j fun _ => (kx, vx)) ?_ ?_ (by simp [mapPut, hmf])
            · rw [Array.toList_modify]
              exact AllR.modify hall (fun z _ => ⟨hk0, hv0⟩)
            · have hyj : es[j]? = some y := by simpa using hy
              have hkts : (Instr.keyThatStays y.key (a.eval k)).run P w = .ok (a.eval k) w := by
                unfold Instr.keyThatStays
                rw [hsame] at hbits ⊢
                rw [if_pos hbits]; rfl
              simp only [Instr.mapUpdate, Sem.run_bind, run_underlying hut, Result.andThen_ok, run_getObj' hobj, hck, hfr, Nat.zero_add, hyj, Option.map_some, Option.getD_some, hkts]
              simp only [setObj, Sem.run, hobj]
        · cases h
      · cases h
    · cases h
  · cases h
/-! 'copy' and 'clear' -/
def clearB (P : Program) (mem : List Blk) (t : TypeId) (x : AV) : Option (Nat × Blk) :=
  match dstR mem x, P.underlying t with
  | some (r, size, lo, n), some (.slice el) =>
    match lk mem r, P.info? el with
    | .row T e l, some inf =>
      match inf.zero with
      | some z => if size = e.size ∧ inf.size = e.size ∧ 0 < e.size ∧ e.chk e.dflt z.cells.toList = true then some (r, .row T e (splice l lo (List.replicate n e.dflt))) else none
      | none => none
    | _, _ => none
  | _, _ => none
theorem clear_ok {P : Program} {o : Oper} {ts : List AV} {mem : List Blk} {t : TypeId} {x : Operand} {ax : AV} {b : Nat} {blk : Blk} (ho : o.op = .call { callee := .builtin .clear, args := #[x], argTypes := #[t] }) (hx : ev ts x = some ax) (h : clearB P mem t ax = some (b, blk)) :
    FxOk P o ts mem b blk .unk True := by
  unfold clearB at h
  split at h
  · rename_i r size lo n el hd hut
    split at h
    · rename_i T e l inf hlk hinf
      split at h
      · rename_i z hz
        split at h
        · rename_i hc
          obtain ⟨hsz, hisz, h0, hchk⟩ := hc
          simp only [Option.some.injEq, Prod.mk.injEq] at h
          obtain ⟨rfl, rfl⟩ := h
          intro B w G a hC hm ht next Q hn
          have hzc : ShR w G.fz e e.dflt z.cells.toList := Sh.chk_ok e e.dflt _ hchk
          have hzl := ShR.length e _ _ hzc
          rw [Array.length_toList] at hzl
          have hcat : CatR (ShR w G.fz e) (List.replicate n e.dflt) (Builtin.zeroCells z.cells n).toList := by
            have := made_cat hzc h0 n
            rw [show (Builtin.zeroCells z.cells n) = madeCells z.cells (n * e.size) by simp [Builtin.zeroCells, madeCells, hzl]]
            exact this
          obtain ⟨ad, cap, hv, hle, had, hrun⟩ := row_write (P := P) hm hd (ev_ok ht hx) hlk hsz hcat (by simp)
          have hzn : (Builtin.zeroCells z.cells n).toList.length = n * e.size := by rw [Array.length_toList, zcells_size, hzl]
          have e2 : ∃ w', (execOp a.eval o).run P w = .ok (.value (.tuple #[])) w' ∧ Below B w w' ∧ Keeps G.fz G.fz w w' ∧ MemR B w' G (mem.set r (.row T e (splice l lo (List.replicate n e.dflt)))) := by
            cases hn0 : n with
            | zero =>
              subst hn0
              obtain ⟨w', hr, h1, h2, h3⟩ := hrun default (.inr (List.length_eq_zero_iff.1 (by rw [hzn]; omega)))
              have hnil : (Builtin.zeroCells z.cells 0).toList = [] := List.length_eq_zero_iff.1 (by rw [hzn]; omega)
              rw [hnil] at hr
              have : w' = w := by simpa [storeCells, Sem.run_pure] using hr.symm
              subst this
              refine ⟨w', ?_, h1, h2, h3⟩
              simp only [execOp, ho, resolve, Sem.run_bind, Sem.run_pure, Result.andThen_ok, invoke, builtin, List.map_toArray, List.map_cons, List.map_nil, hv, Builtin.clear_]
              cases ad <;> simp [run_underlying hut]
            | succ m =>
              obtain ⟨ad', had'⟩ := Option.isSome_iff_exists.1 (had (by rw [hzn, hn0, Nat.succ_mul]; omega))
              obtain ⟨w', hr, h1, h2, h3⟩ := hrun ad' (.inl had')
              refine ⟨w', ?_, h1, h2, by rw [← hn0]; exact h3⟩
              rw [hn0] at hr
              simp only [execOp, ho, resolve, Sem.run_bind, Sem.run_pure, Result.andThen_ok, invoke, builtin, List.map_toArray, List.map_cons, List.map_nil, hv, hn0, had', Builtin.clear_]
              simp [run_underlying hut, run_zero hinf hz, hr]
          obtain ⟨w', hr, h1, h2, h3⟩ := e2
          unfold Oper.wp
          rw [hr]
          exact hn _ w' h1 h2 h3 trivial
        · cases h
      · cases h
    · cases h
  · cases h
/-- what is copied: the elements of a slice, a text's bytes -/
def srcS (mem : List Blk) (e : Sh) (x : AV) : Option (List e.T) :=
  match e, x with
  | .int .u8, .str s => some (s.map fun b => ((b.toNat : Nat) : Int))
  | e, x => srcL mem e x
def SrcC (P : Program) (w : World) (size : Nat) (v : Value) (m : Nat) (us : List Value) : Prop :=
  (Builtin.lenOf v).run P w = .ok m w ∧ us.length = m * size ∧ ∀ k, k ≤ m → (Builtin.firstCells size k v).run P w = .ok (us.take (k * size)).toArray w
theorem srcS_ok {P : Program} {B : Nat} {w : World} {G : Gh} {mem : List Blk} (hm : MemR B w G mem) {e : Sh} {x : AV} {l : List e.T} {v : Value} (h : srcS mem e x = some l) (hv : ValR w G x v) : ∃ us, SrcC P w e.size v l.length us ∧ CatR (ShR w G.fz e) l us := by
  have gen : srcL mem e x = some l → ∃ us, SrcC P w e.size v l.length us ∧ CatR (ShR w G.fz e) l us := by
    intro h
    obtain ⟨us, ⟨hl, ad, cap, rfl, hx⟩, hc⟩ := srcL_ok hm h hv
    have lpos : 0 < us.length → 0 < l.length := fun h => by
      rcases Nat.eq_zero_or_pos l.length with q | q
      · rw [q, Nat.zero_mul] at hl; omega
      · exact q
    refine ⟨us, ⟨by simp [Builtin.lenOf, Sem.run_pure], hl, fun k hk => ?_⟩, hc⟩
    cases ad with
    | none =>
      have h0 : us.take (k * e.size) = [] := by
        rcases Nat.eq_zero_or_pos us.length with h0 | h0
        · rw [List.length_eq_zero_iff.1 h0, List.take_nil]
        · obtain ⟨b, off, e1, _⟩ := hx (lpos h0); cases e1
      rw [h0]
      simp [Builtin.firstCells, Sem.run_pure]
    | some ad =>
      have hlen : (us.take (k * e.size)).length = k * e.size := by
        rw [List.length_take, hl]
        exact Nat.min_eq_left (Nat.mul_le_mul_right _ hk)
      have := run_loadCells_list (P := P) w ad (us.take (k * e.size)) (fun j u hj => by
        have hpos : 0 < us.length := by
          have := (List.getElem?_eq_some_iff.1 hj).1
          rw [List.length_take] at this; omega
        obtain ⟨b, off, e1, h2⟩ := hx (lpos hpos)
        obtain rfl := Option.some.inj e1
        rw [addr_add']
        have hj' : us[j]? = some u := by
          rw [List.getElem?_take] at hj
          split at hj
          · exact hj
          · cases hj
        exact h2 j u hj')
      rw [hlen] at this
      simpa [Builtin.firstCells] using this
  unfold srcS at h
  split at h
  · rename_i s
    simp only [Option.some.injEq] at h
    subst h
    obtain rfl := val_str hv
    refine ⟨s.map fun b => Value.int .u8 b.toNat, ⟨by simp [Builtin.lenOf, Sem.run_pure, ByteArray.size], by simp [Sh.size], fun k hk => ?_⟩, ?_⟩
    · rw [List.length_map] at hk
      have : (⟨s.toArray⟩ : ByteArray).extract 0 k = ⟨(s.take k).toArray⟩ := by
        have := str_extract s 0 k hk
        simpa using this
      simp [Builtin.firstCells, this, Sh.size, Sem.run_pure]
    · clear gen hv
      induction s with
      | nil => rfl
      | cons b s ih => exact ⟨[_], _, rfl, rfl, ih⟩
  · exact gen h
theorem CatR.take {α : Type} {R : α → List Value → Prop} {k : Nat} (hR : ∀ x c, R x c → c.length = k) {l : List α} {cs : List Value} (h : CatR R l cs) {n : Nat} (hn : n ≤ l.length) : CatR R (l.take n) (cs.take (n * k)) := by
  rw [← List.take_append_drop n l] at h
  obtain ⟨a, b, rfl, h1, h2⟩ := CatR.split h
  have := CatR.length hR _ _ h1
  rw [List.length_take, Nat.min_eq_left hn] at this
  rw [List.take_left' this]
  exact h1
def copyB (P : Program) (mem : List Blk) (t : TypeId) (d x : AV) : Option (Nat × Blk × AV) :=
  match dstR mem d, P.underlying t with
  | some (r, size, lo, n), some (.slice el) =>
    match lk mem r, P.info? el with
    | .row T e l, some inf =>
      match srcS mem e x with
      | some l' => if size = e.size ∧ inf.size = e.size then some (r, .row T e (splice l lo (l'.take n)), .int .i64 ((l'.take n).length : Nat)) else none
      | none => none
    | _, _ => none
  | _, _ => none
theorem copy_ok {P : Program} {o : Oper} {ts : List AV} {mem : List Blk} {t t2 : TypeId} {d x : Operand} {ad ax av : AV} {b : Nat} {blk : Blk} (ho : o.op = .call { callee := .builtin .copy, args := #[d, x], argTypes := #[t, t2] }) (hd : ev ts d = some ad) (hx : ev ts x = some ax) (h : copyB P mem t ad ax = some (b, blk, av)) :
    FxOk P o ts mem b blk av True := by
  unfold copyB at h
  split at h
  · rename_i r size lo n el hdr hut
    split at h
    · rename_i T e l inf hlk hinf
      split at h
      · rename_i l' hsrc
        split at h
        · rename_i hc
          obtain ⟨hsz, hisz⟩ := hc
          simp only [Option.some.injEq, Prod.mk.injEq] at h
          obtain ⟨rfl, rfl, rfl⟩ := h
          intro B w G a hC hm ht next Q hn
          obtain ⟨us, ⟨h1, h2, h3⟩, h4⟩ := srcS_ok (P := P) hm hsrc (ev_ok ht hx)
          have hml : (l'.take n).length = min l'.length n := by rw [List.length_take, Nat.min_comm]
          have hcat := CatR.take (fun y c hy => ShR.length e y c hy) h4 (n := min l'.length n) (Nat.min_le_left _ _)
          rw [show l'.take (min l'.length n) = l'.take n by rw [List.take_eq_take_iff]; omega] at hcat
          obtain ⟨adr, cap, hv, hle, had, hrun⟩ := row_write (P := P) hm hdr (ev_ok ht hd) hlk hsz hcat (by rw [hml]; exact Nat.min_le_right _ _)
          have hfc := h3 (min l'.length n) (Nat.min_le_left _ _)
          have e2 : ∃ w', (execOp a.eval o).run P w = .ok (.value (.int .i64 ((l'.take n).length : Nat))) w' ∧ Below B w w' ∧ Keeps G.fz G.fz w w' ∧ MemR B w' G (mem.set r (.row T e (splice l lo (l'.take n)))) := by
            have hcopy : ∀ w', (match adr with | some a' => storeCells a' (us.take (min l'.length n * e.size)) | none => pure () : Sem Unit).run P w = .ok () w' → (execOp a.eval o).run P w = .ok (.value (.int .i64 ((l'.take n).length : Nat))) w' := by
              intro w' hst
              have hnm : Nat.min l'.length n = min l'.length n := rfl
              simp only [execOp, ho, resolve, Sem.run_bind, Sem.run_pure, Result.andThen_ok, invoke, builtin, List.map_toArray, List.map_cons, List.map_nil, hv, Builtin.copy_]
              cases adr with
              | none =>
                have : w' = w := by simpa [Sem.run_pure] using hst.symm
                subst this
                simp [run_underlying hut, h1, hnm, run_sz hinf, hisz, hfc, goInt, hml]
              | some a' =>
                have hst' : (storeCells a' (us.take (min l'.length n * e.size))).run P w = .ok () w' := hst
                simp [run_underlying hut, h1, hnm, run_sz hinf, hisz, hfc, goInt, hml, hst']
            cases adr with
            | some a' =>
              obtain ⟨w', hr, k1, k2, k3⟩ := hrun a' (.inl rfl)
              exact ⟨w', hcopy w' hr, k1, k2, k3⟩
            | none =>
              have hnil : us.take (min l'.length n * e.size) = [] := by
                rcases Nat.eq_zero_or_pos (us.take (min l'.length n * e.size)).length with h0 | h0
                · exact List.length_eq_zero_iff.1 h0
                · have := had h0; cases this
              obtain ⟨w', hr, k1, k2, k3⟩ := hrun default (.inr hnil)
              rw [hnil] at hr
              have : w' = w := by simpa [storeCells, Sem.run_pure] using hr.symm
              subst this
              exact ⟨w', hcopy w' rfl, k1, k2, k3⟩
          obtain ⟨w', hr, k1, k2, k3⟩ := e2
          unfold Oper.wp
          rw [hr]
          exact hn _ w' k1 k2 k3 rfl
        · cases h
      · cases h
    · cases h
  · cases h
/-- an operation that writes one block: the block, what it becomes, the operation's value -/
def fxB (P : Program) (ts : List AV) (mem : List Blk) (o : Oper) (h : Hint) : Option (Nat × Blk × AV × Prop) :=
  match o.op with
  | .store t p x =>
    match stB P ts mem t p x with
    | some (b, blk, C) => some (b, blk, .unk, C)
    | none => none
  | .next it true =>
    match ev ts it with
    | some (.ptr b []) =>
      match lk mem b with
      | .iter s pos =>
        match h with
        | .dec true => some (b, .iter s (pos + (runeAt s pos).2), .tup (.cons (.bool true) (.cons (.int .i64 (pos : Int)) (.cons (.int .i32 ((runeAt s pos).1 : Int)) .nil))), pos < s.length)
        | .dec false => some (b, .iter s pos, .tup (.cons (.bool false) .nil), ¬ pos < s.length)
        | _ => none
      | _ => none
    | _ => none
  | .mapUpdate t m k v =>
    match ev ts m, ev ts k, ev ts v with
    | some am, some ak, some av =>
      match evPut P mem t am ak av with
      | some (b, blk) => some (b, blk, .unk, True)
      | none => none
    | _, _, _ => none
  | .call c =>
    match c.callee with
    | .builtin .clear =>
      match c.args.toList, c.argTypes.toList with
      | [x], [t] =>
        match ev ts x with
        | some ax =>
          match clearB P mem t ax with
          | some (b, blk) => some (b, blk, .unk, True)
          | none => none
        | none => none
      | _, _ => none
    | .builtin .copy =>
      match c.args.toList, c.argTypes.toList with
      | [d, x], [t, _] =>
        match ev ts d, ev ts x with
        | some ad, some ax =>
          match copyB P mem t ad ax with
          | some (b, blk, av) => some (b, blk, av, True)
          | none => none
        | _, _ => none
      | _, _ => none
    | .value x =>
      match h with
      | .bstr U => evStr P ts mem x c.args.toList U
      | .inp e l m => evInp P ts mem x c.args.toList e l m
      | _ => none
    | _ => none
  | _ => none
theorem dstR_mono {mem mem' : List Blk} {x : AV} {q : Nat × Nat × Nat × Nat} (h : dstR mem x = some q) (hm : ∀ i, lk mem i = lk mem' i ∨ lk mem i = .dead) : dstR mem' x = some q := by
  unfold dstR at h ⊢
  split at h
  · rename_i r
    rcases hm r with h1 | h1
    · rw [← h1]; exact h
    · rw [h1] at h; cases h
  · exact h
  · cases h
theorem lk_mono {mem mem' : List Blk} {i : Nat} {b : Blk} (hm : ∀ i, lk mem i = lk mem' i ∨ lk mem i = .dead) (h : lk mem i = b) (hb : b ≠ .dead) : lk mem' i = b := by
  rcases hm i with h1 | h1
  · rw [← h1]; exact h
  · rw [h1] at h; exact absurd h.symm hb
theorem srcS_mono {mem mem' : List Blk} {e : Sh} {x : AV} {l : List e.T} (h : srcS mem e x = some l) (hm : ∀ i, lk mem i = lk mem' i ∨ lk mem i = .dead) : srcS mem' e x = some l := by
  unfold srcS at h ⊢
  split at h
  · exact h
  · exact srcL_mono h hm
theorem marg_mono {mem mem' : List Blk} {r : Nat} {e : Sh} {x : AV} {y : MA e} (h : marg mem r e x = some y) (hm : ∀ i, lk mem i = lk mem' i ∨ lk mem i = .dead) : marg mem' r e x = some y := by
  unfold marg at h ⊢
  split at h
  · exact h
  · rename_i q
    split at h
    · cases h
    · rename_i hq
      obtain ⟨l, h1, h2⟩ := Option.map_eq_some_iff.1 h
      have e : rowT mem' q = rowT mem q := by
        rcases hm q with h3 | h3
        · simp only [rowT, h3]
        · simp only [srcL, h3] at h1; cases h1
      rw [e, if_neg hq]
      exact Option.map_eq_some_iff.2 ⟨l, srcL_mono h1 hm, h2⟩
  · exact h
  · exact h
  · cases h
theorem margs_mono {mem mem' : List Blk} {r : Nat} {e : Sh} {ts : List AV} (hm : ∀ i, lk mem i = lk mem' i ∨ lk mem i = .dead) : ∀ (l : List Operand) (ms : List (MA e)), margs mem r e ts l = some ms → margs mem' r e ts l = some ms
  | [], ms, h => h
  | x :: l, ms, h => by
    simp only [margs] at h ⊢
    split at h
    · rename_i u ms' hx hl
      split at h
      · rename_i y hy
        simp only [hx, margs_mono hm l ms' hl, marg_mono hy hm]
        exact h
      · cases h
    · cases h
theorem evStr_mono {P : Program} {ts : List AV} {mem mem' : List Blk} {x : Operand} {args : List Operand} {U : Nat} {q : Nat × Blk × AV × Prop} (he : evStr P ts mem x args U = some q) (hm : ∀ i, lk mem i = lk mem' i ∨ lk mem i = .dead) : evStr P ts mem' x args U = some q := by
  unfold evStr at he
  split at he
  · rename_i y g hx
    split at he
    · rename_i b hy
      split at he
      · rename_i hlk
        split at he
        · rename_i r hbuf
          split at he
          · rename_i hlr
            unfold evStr
            simp only [hx, hy, lk_mono hm hlk (fun h => by cases h), hbuf, lk_mono hm hlr (fun h => by cases h)]
            exact he
          · cases he
        · cases he
      · cases he
    · cases he
  · cases he
theorem rowArg_mono {mem mem' : List Blk} {e : Sh} {ts : List AV} {x : Operand} {args : List Operand} {q : Nat × Nat × TypeId × List e.T × List (MA e)} (he : rowArg ts mem e x args = some q) (hm : ∀ i, lk mem i = lk mem' i ∨ lk mem i = .dead) : rowArg ts mem' e x args = some q := by
  unfold rowArg at he
  split at he
  · rename_i s rest g hx
    split at he
    · rename_i r hs
      split at he
      · rename_i hlk hms
        unfold rowArg
        simp only [hx, hs, lk_mono hm hlk (fun h => by cases h), margs_mono hm _ _ hms]
        exact he
      · cases he
    · cases he
  · cases he
theorem evInp_mono {P : Program} {ts : List AV} {mem mem' : List Blk} {x : Operand} {args : List Operand} {e : Sh} {l' : List e.T} {m : Option Nat} {q : Nat × Blk × AV × Prop} (he : evInp P ts mem x args e l' m = some q) (hm : ∀ i, lk mem i = lk mem' i ∨ lk mem i = .dead) : evInp P ts mem' x args e l' m = some q := by
  unfold evInp at he
  split at he
  · rename_i hra
    unfold evInp
    simp only [rowArg_mono hra hm]
    exact he
  · cases he
theorem fxB_mono {P : Program} {ts : List AV} {mem mem' : List Blk} {o : Oper} {h : Hint} {b : Nat} {blk : Blk} {av : AV} {C : Prop} (he : fxB P ts mem o h = some (b, blk, av, C)) (hm : ∀ i, lk mem i = lk mem' i ∨ lk mem i = .dead) : fxB P ts mem' o h = some (b, blk, av, C) := by
  unfold fxB at he
  split at he
  · rename_i t p x ho
    split at he
    · rename_i b' blk' C' hst
      simp only [Option.some.injEq, Prod.mk.injEq] at he
      obtain ⟨rfl, rfl, rfl, rfl⟩ := he
      have hnd := (stB_ok (ts' := ts) hst (fun t => .inl rfl) rfl).2.2
      have hb : lk mem' b' = lk mem b' := (hm b').elim (fun h => h.symm) (fun h => absurd h hnd)
      obtain ⟨h1, _, _⟩ := stB_ok (ts' := ts) hst (fun t => .inl rfl) hb
      have hlt : b' < mem'.length := lk_lt (by rw [hb]; exact hnd)
      unfold fxB
      rw [ho]
      have hs : stB P ts mem' t p x = some (b', blk', C') := by
        unfold stB at hst ⊢
        split at hst
        · rename_i b2 q hp
          split at hst
          · rename_i m D hm2
            simp only [Option.some.injEq, Prod.mk.injEq] at hst
            obtain ⟨rfl, _, _⟩ := hst
            simp [h1, hlt]
          · cases hst
        · cases hst
      simp only [hs]
    · cases he
  · rename_i it ho
    split at he
    · rename_i b' hit
      split at he
      · rename_i s pos hlk
        have hlk' := lk_mono hm hlk (fun h => by cases h)
        unfold fxB
        rw [ho]
        simp only [hit, hlk']
        exact he
      · cases he
    · cases he
  · rename_i t m k v ho
    split at he
    · rename_i am ak av' h1 h2 h3
      split at he
      · rename_i b' blk' hput
        have hp : evPut P mem' t am ak av' = some (b', blk') := by
          unfold evPut at hput ⊢
          split at hput
          · rename_i r
            split at hput
            · rename_i hlk hut
              simp only [lk_mono hm hlk (fun h => by cases h), hut]
              exact hput
            · cases hput
          · cases hput
        unfold fxB
        rw [ho]
        simp only [h1, h2, h3, hp]
        exact he
      · cases he
    · cases he
  · rename_i c ho
    split at he
    · rename_i hcal
      split at he
      · rename_i x t ha ht
        split at he
        · rename_i ax hx
          split at he
          · rename_i b' blk' hcl
            have hp : clearB P mem' t ax = some (b', blk') := by
              unfold clearB at hcl ⊢
              split at hcl
              · rename_i hd hut
                split at hcl
                · rename_i hlk hinf
                  simp only [dstR_mono hd hm, hut, lk_mono hm hlk (fun h => by cases h), hinf]
                  exact hcl
                · cases hcl
              · cases hcl
            unfold fxB
            rw [ho]
            simp only [hcal, ha, ht, hx, hp]
            exact he
          · cases he
        · cases he
      · cases he
    · rename_i hcal
      split at he
      · rename_i d x t t2 ha ht
        split at he
        · rename_i ad ax hd hx
          split at he
          · rename_i b' blk' av' hcp
            have hp : copyB P mem' t ad ax = some (b', blk', av') := by
              unfold copyB at hcp
              split at hcp
              · rename_i hdr hut
                split at hcp
                · rename_i hlk hinf
                  split at hcp
                  · rename_i l' hsrc
                    unfold copyB
                    simp only [dstR_mono hdr hm, hut, lk_mono hm hlk (fun h => by cases h), hinf, srcS_mono hsrc hm]
                    exact hcp
                  · cases hcp
                · cases hcp
              · cases hcp
            unfold fxB
            rw [ho]
            simp only [hcal, ha, ht, hd, hx, hp]
            exact he
          · cases he
        · cases he
      · cases he
    · rename_i x hcal
      split at he
      · unfold fxB
        rw [ho]
        simp only [hcal]
        exact evStr_mono he hm
      · unfold fxB
        rw [ho]
        simp only [hcal]
        exact evInp_mono he hm
      · cases he
    · cases he
  · cases he
theorem fxB_ok {P : Program} {ts : List AV} {mem : List Blk} {o : Oper} {h : Hint} {b : Nat} {blk : Blk} {av : AV} {C : Prop} (he : fxB P ts mem o h = some (b, blk, av, C)) : FxOk P o ts mem b blk av C ∧ b < mem.length ∧ lk mem b ≠ .dead ∧ ∀ r ∈ av.refs, r = b := by
  unfold fxB at he
  split at he
  · rename_i t p x ho
    split at he
    · rename_i b' blk' C' hst
      simp only [Option.some.injEq, Prod.mk.injEq] at he
      obtain ⟨rfl, rfl, rfl, rfl⟩ := he
      obtain ⟨h1, h2, h3⟩ := stB_ok (ts' := ts) hst (fun t => .inl rfl) rfl
      exact ⟨fun B w G a hC hm ht next Q hn => evStore_ok1 ho h1 B w G a hC hm ht next Q (fun w' k1 k2 k3 => hn _ w' k1 k2 k3 trivial), h2, h3, fun _ h => by cases h⟩
    · cases he
  · rename_i it ho
    split at he
    · rename_i b' hit
      split at he
      · rename_i s pos hlk
        obtain ⟨g1, g2⟩ := next_ok (P := P) ho hit hlk
        have hnd : lk mem b' ≠ .dead := by rw [hlk]; exact fun h => by cases h
        split at he
        · simp only [Option.some.injEq, Prod.mk.injEq] at he
          obtain ⟨rfl, rfl, rfl, rfl⟩ := he
          exact ⟨g1, lk_lt hnd, hnd, fun _ h => by cases h⟩
        · simp only [Option.some.injEq, Prod.mk.injEq] at he
          obtain ⟨rfl, rfl, rfl, rfl⟩ := he
          exact ⟨g2, lk_lt hnd, hnd, fun _ h => by cases h⟩
        · cases he
      · cases he
    · cases he
  · rename_i t m k v ho
    split at he
    · rename_i am ak av' h1 h2 h3
      split at he
      · rename_i b' blk' hput
        simp only [Option.some.injEq, Prod.mk.injEq] at he
        obtain ⟨rfl, rfl, rfl, rfl⟩ := he
        have hnd : lk mem b' ≠ .dead := by
          have hput2 := hput
          unfold evPut at hput2
          split at hput2
          · split at hput2
            · rename_i hlk hut
              split at hput2
              · split at hput2
                · simp only [Option.some.injEq, Prod.mk.injEq] at hput2
                  obtain ⟨rfl, _⟩ := hput2
                  rw [hlk]; exact fun h => by cases h
                · cases hput2
              · cases hput2
            · cases hput2
          · cases hput2
        exact ⟨evPut_ok ho h1 h2 h3 hput, lk_lt hnd, hnd, fun _ h => by cases h⟩
      · cases he
    · cases he
  · rename_i c ho
    obtain ⟨callee, args, tys⟩ := c
    simp only at he
    split at he
    · split at he
      · rename_i x t ha htys
        split at he
        · rename_i ax hx
          split at he
          · rename_i b' blk' hcl
            simp only [Option.some.injEq, Prod.mk.injEq] at he
            obtain ⟨rfl, rfl, rfl, rfl⟩ := he
            have e1 : args = #[x] := by apply Array.ext'; simpa using ha
            have e2 : tys = #[t] := by apply Array.ext'; simpa using htys
            rw [e1, e2] at ho
            have hnd : lk mem b' ≠ .dead := by
              have hcl2 := hcl
              unfold clearB at hcl2
              split at hcl2
              · split at hcl2
                · rename_i hlk hinf
                  split at hcl2
                  · split at hcl2
                    · simp only [Option.some.injEq, Prod.mk.injEq] at hcl2
                      obtain ⟨rfl, _⟩ := hcl2
                      rw [hlk]; exact fun h => by cases h
                    · cases hcl2
                  · cases hcl2
                · cases hcl2
              · cases hcl2
            exact ⟨clear_ok ho hx hcl, lk_lt hnd, hnd, fun _ h => by cases h⟩
          · cases he
        · cases he
      · cases he
    · split at he
      · rename_i d x t t2 ha htys
        split at he
        · rename_i ad ax hd hx
          split at he
          · rename_i b' blk' av' hcp
            simp only [Option.some.injEq, Prod.mk.injEq] at he
            obtain ⟨rfl, rfl, rfl, rfl⟩ := he
            have e1 : args = #[d, x] := by apply Array.ext'; simpa using ha
            have e2 : tys = #[t, t2] := by apply Array.ext'; simpa using htys
            rw [e1, e2] at ho
            have hnd : lk mem b' ≠ .dead ∧ av'.refs = [] := by
              have hcl2 := hcp
              unfold copyB at hcl2
              split at hcl2
              · split at hcl2
                · rename_i hlk hinf
                  split at hcl2
                  · split at hcl2
                    · simp only [Option.some.injEq, Prod.mk.injEq] at hcl2
                      obtain ⟨rfl, _, rfl⟩ := hcl2
                      exact ⟨(by rw [hlk]; exact fun h => (by cases h)), rfl⟩
                    · cases hcl2
                  · cases hcl2
                · cases hcl2
              · cases hcl2
            exact ⟨copy_ok ho hd hx hcp, lk_lt hnd.1, hnd.1, by rw [hnd.2]; exact fun _ h => by cases h⟩
          · cases he
        · cases he
      · cases he
    · rename_i x
      split at he
      · obtain ⟨h1, h2, _, h4⟩ := evStr_ok ho he
        exact ⟨h1, lk_lt h2, h2, by rw [h4]; exact fun _ h => by cases h⟩
      · obtain ⟨h1, h2, _, h4⟩ := evInp_ok ho he
        exact ⟨h1, lk_lt h2, h2, h4⟩
      · cases he
    · cases he
  · cases he
end Go.Proofs.YtbpjinefbnlenaaGreatDoor
