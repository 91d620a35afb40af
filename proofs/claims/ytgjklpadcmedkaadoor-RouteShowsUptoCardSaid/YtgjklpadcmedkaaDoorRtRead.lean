/- route.Read, walked by hand: it ranges over an iterator that writes what it captured. -/
import Derived.RangeFuncBox
import Derived.Maps.AppendAt
import Derived.Test.YtgjklpadcmedkaaDoorRtIter
import Derived.Test.YtgjklpadcmedkaaDoorFrs
import Derived.Test.YtgjklpadcmedkaaDoorAm34
namespace Go.Proofs.YtgjklpadcmedkaaDoor
open Go Go.RowKit Go.Shelf
set_option linter.unusedVariables false
attribute [local go_sem] Oper.semAt_some

def atoi1 (x : Tx) : Option Int := match Lib.atoiAll x with
  | .ok v => some v
  | _ => none
def ints : List Tx → Option (List Int)
  | [] => some []
  | x :: l => (atoi1 x).bind fun v => (ints l).map (v :: ·)
theorem ints_app : ∀ (a b : List Tx), ints (a ++ b) = (ints a).bind fun l => (ints b).map (l ++ ·)
  | [], b => by simp [ints]
  | x :: a, b => by
    rw [List.cons_append, ints, ints_app a b, ints]
    cases atoi1 x with
    | none => rfl
    | some v =>
      cases ints a with
      | none => rfl
      | some l => cases ints b <;> rfl
theorem ints_one (x : Tx) : ints [x] = (atoi1 x).map ([·]) := by
  unfold ints ints
  cases atoi1 x <;> rfl
theorem ints_len : ∀ (a : List Tx) (l : List Int), ints a = some l → l.length = a.length
  | [], l, h => by simp [ints] at h; subst h; rfl
  | x :: a, l, h => by
    unfold ints at h
    cases hx : atoi1 x with
    | none => rw [hx] at h; cases h
    | some v =>
      rw [hx] at h
      cases ha : ints a with
      | none => rw [ha] at h; cases h
      | some r =>
        rw [ha] at h
        obtain rfl := Option.some.inj h
        simp [ints_len a r ha]
/-- what Read answers -/
def readV (n : Nat) (s : Tx) : List Int × Int := match ints (pcs s) with
  | none => ([], 4)
  | some l => match F4 n l with
    | some (t, e) => bif e == 0 && t == s then (l, 0) else ([], 4)
    | none => ([], 4)
def readC (n : Nat) (s : Tx) : Bool := decide (s.length ≤ 1099511627776) && (match ints (pcs s) with
  | none => true
  | some l => (F4 n l).isSome)
/-- Atoi, at whatever text -/
theorem atoi_calls (x : Tx) (hl : x.length ≤ 281474976710656) (W : World) (hv : TabsAt W) :
    Calls Tryd.prog 15 #[.string (bytesOf x)] W fun e W' => Below W.heap.size W W' ∧ ((∃ v, atoi1 x = some v ∧ e = .returned (.tuple #[.int .i64 v, .nilIface])) ∨ (atoi1 x = none ∧ ∃ k t N, e = .returned (.tuple #[.int .i64 k, .iface t (.pointer (some ⟨N, 0, none⟩))]))) := by
  obtain ⟨⟨t0, p0, h0⟩, t1, p1, h1⟩ := hv
  have hs : (bytesOf x).size ≤ 281474976710656 := by rw [bytesOf_size]; exact hl
  rcases hA : Lib.atoiAll x with v | _ | _
  · refine (Tryd.strconv_Atoi_ok (bytesOf x) (by omega) v hA W).mono ?_
    rintro e W' ⟨rfl, hW⟩
    refine ⟨?_, .inl ⟨v, by unfold atoi1; rw [hA], rfl⟩⟩
    rcases hW with rfl | ⟨t, rfl⟩
    · exact Below.refl _ _
    · exact Lib.bytesWorld_below _ _ _
  · refine (Any.strconv_Atoi_syntax Tryd.laysC172 (bytesOf x) hs hA _ W h0 (.inr ⟨_, _, rfl⟩)).mono ?_
    rintro e W' ⟨N, rfl, _, _, hb⟩
    exact ⟨hb, .inr ⟨by unfold atoi1; rw [hA], _, _, _, rfl⟩⟩
  · refine (Tryd.strconv_Atoi_range (bytesOf x) hs hA _ W h1 (.inr ⟨_, _, rfl⟩)).mono ?_
    rintro e W' ⟨N, rfl, _, _, hb⟩
    exact ⟨hb, .inr ⟨by unfold atoi1; rw [hA], _, _, _, rfl⟩⟩
theorem infoInt : (Tryd.prog.info? 3).map (fun i => (i.zero, i.size, i.bytes)) = some (some (.int .i64 0), 1, 8) := by kernel_rfl
abbrev ivs (l : List Int) : List Value := l.map (.int .i64)
/-- what the loop keeps: the numbers so far, the results as they began -/
def RI (w : World) (l : List Int) (W : World) : Prop :=
  (∃ v, Boxed W (w.heap.size + 2) 22 v ∧ W.ownsRow (w.heap.size + 6) 3 1 v l.length (ivs l)) ∧ (Boxed W w.heap.size 22 (.slice none 0 0) ∧ Boxed W (w.heap.size + 1) 23 (.int .i64 0)) ∧ Below w.heap.size w W ∧ w.heap.size + 6 ≤ W.heap.size
def RX (w : World) (W : World) : Prop :=
  (Boxed W w.heap.size 22 (.slice none 0 0) ∧ Boxed W (w.heap.size + 1) 23 (.int .i64 4)) ∧ Below w.heap.size w W
theorem box_stays {Bn B b : Nat} {t : TypeId} {v : Value} (hne : b ≠ Bn) : BoxStays Bn B fun W => Boxed W b t v := fun X Y row hs hg hr => hs.kept hg (by
  intro e
  rcases hr b e.symm with h | ⟨_, o, ho, hc⟩
  · exact hne h
  · rw [show X.heap[b]? = _ from hs] at ho; cases ho; cases hc)
theorem row_stays {Bn B : Nat} {e : TypeId} {v : Value} {k size : Nat} {xs : List Value} (hB : Bn < B) : BoxStays Bn B fun W => W.ownsRow B e size v k xs := fun X Y row hs hg hr => hs.kept hg (by
  rcases hs.2 with ⟨rfl, _⟩ | ⟨g, cap, cur, rfl, hBg, hgb, _⟩
  · exact .inl rfl
  · refine .inr fun e' => ?_
    rcases hr g (by simpa [Value.ownBlock] using e'.symm) with h | ⟨_, o, ho, hc⟩
    · omega
    · rw [hgb] at ho; cases ho; cases hc)
theorem below_stays {Bn B n : Nat} {w : World} (hn : n ≤ Bn) (hnB : n ≤ B) : BoxStays Bn B fun W => Below n w W ∧ n ≤ W.heap.size := fun X Y row hs hg hr =>
  ⟨hs.1.grown hg hs.2 fun j e => by rcases hr j e with h | ⟨h, _⟩ <;> omega, Nat.le_trans hs.2 hg.size⟩
theorem RI.stays {w : World} {l : List Int} {B : Nat} (hB : B = w.heap.size + 6) : BoxStays (w.heap.size + 3) B (RI w l) := by
  subst hB
  rintro X Y row ⟨⟨v, hv, hr⟩, ⟨h1, h2⟩, hb, hz⟩ hg hro
  exact ⟨⟨v, box_stays (by omega) X Y row hv hg hro, row_stays (by omega) X Y row hr hg hro⟩, ⟨box_stays (by omega) X Y row h1 hg hro, box_stays (by omega) X Y row h2 hg hro⟩, (below_stays (w := w) (by omega) (by omega) X Y row ⟨hb, hb.size⟩ hg hro).1, Nat.le_trans hz hg.size⟩
theorem RX.stays {w : World} {B : Nat} (hB : B = w.heap.size + 6) : BoxStays (w.heap.size + 3) B (RX w) := by
  subst hB
  rintro X Y row ⟨⟨h1, h2⟩, hb⟩ hg hro
  exact ⟨⟨box_stays (by omega) X Y row h1 hg hro, box_stays (by omega) X Y row h2 hg hro⟩, (below_stays (w := w) (by omega) (by omega) X Y row ⟨hb, hb.size⟩ hg hro).1⟩
theorem resR (W : World) (tmps : Array Value) (a b : Nat) (v : Value) (k : Int) (ha : tmps.getD 2 undef = .pointer (some ⟨a, 0, none⟩)) (hb : tmps.getD 3 undef = .pointer (some ⟨b, 0, none⟩)) (h1 : Boxed W a 22 v) (h2 : Boxed W b 23 (.int .i64 k)) :
    (results Tryd.f6 tmps).run Tryd.prog W = .ok (.tuple #[v, .int .i64 k]) W := by
  have hres : Tryd.f6.results = #[.cell 2 22, .cell 3 23] := by kernel_rfl
  have c1 := h1.cell
  have c2 := h2.cell
  have l1 : (loadVar 22 ⟨a, 0, none⟩).run Tryd.prog W = .ok v W := by
    simp [loadVar, isAgg, run_underlying Tryd.underlying22, load, Sem.run, c1]
  have l2 : (loadVar 23 ⟨b, 0, none⟩).run Tryd.prog W = .ok (.int .i64 k) W := by
    simp [loadVar, isAgg, run_underlying Tryd.underlying23, load, Sem.run, c2]
  rw [Array.getD_eq_getD_getElem?] at ha hb
  simp only [results, hres]
  simp [Sem.run_bind, Result.andThen, ha, hb, asAddr, l1, l2]
theorem grownB {A B : World} (h : Below A.heap.size A B) : A.grownBy B none := ⟨h.os, h.tape, h.output, h.size, fun b hb _ => h.block b hb⟩
theorem ownsRow_base {W : World} {B b : Nat} {e : TypeId} {size n : Nat} {v : Value} {xs : List Value} (h : W.ownsRow B e size v n xs) (hb : b ≤ B) : W.ownsRow b e size v n xs := by
  refine ⟨h.1, ?_⟩
  rcases h.2 with h | ⟨g, cap, cur, rfl, hBg, h⟩
  · exact .inl h
  · exact .inr ⟨g, cap, cur, rfl, Nat.le_trans hb hBg, h⟩
theorem cell_one_new (w : World) (x : Value) (t : TypeId) : ∀ j u, [x][j]? = some u → (w.alloc (.cells #[x] t)).cell? ((⟨w.heap.size, 0, none⟩ : Addr).add j) = some u := by
  intro j u hj
  match j, hj with
  | 0, hj => simp at hj; subst hj; simp [Addr.add]
theorem catInts {w : World} {fz : Nat → Prop} : ∀ l : List Int, CatR (ShR w fz (.int .i64)) l (ivs l)
  | [] => rfl
  | a :: l => ⟨[.int .i64 a], ivs l, rfl, rfl, catInts l⟩
theorem show_calls (n : Nat) (l : List Int) (t : Tx) (k : Int) (h : F4 n l = some (t, k)) (W : World) (hbs : Bs W.heap.size W) (base : Nat) (v : Value) (hrow : W.ownsRow base 3 1 v l.length (ivs l)) :
    Calls Tryd.prog 4 #[v] W fun e W' => e = .returned (.tuple #[.string (bytesOf t), .int .i64 k]) ∧ Below W.heap.size W W' := by
  have ha : ShR W (G0 fun b => v.ownBlock = some b).fz (.sl (.int .i64)) l [v] := by
    rcases hrow.2 with ⟨rfl, h0⟩ | ⟨g, cap, cur, rfl, hBg, hgb, hnc, hcm, hcs, htake⟩
    · exact ⟨none, 0, by rw [h0], by omega, by unfold maxLen; omega, fun h => by omega⟩
    · refine ⟨some ⟨g, 0, none⟩, cap, rfl, hnc, hcm, fun _ => ⟨g, 0, ivs l, rfl, rfl, (hrow.lt g rfl).2, catInts l, fun i u hi => ?_⟩⟩
      have := hrow.cells (g := g) rfl i u hi
      rcases i with _ | i
      · simpa [Addr.add] using this
      · simpa [Addr.add] using this
  have hp := F4_ok n l (t, k) h W (fun b => v.ownBlock = some b) [v] ⟨fun b hb => (hrow.lt b hb).2, hbs⟩ ⟨v, [], rfl, ha, rfl⟩
  refine hp.mono ?_
  rintro e W' ⟨v', G', rfl, hN, vs, rfl, v1, t1, e1, h1, v2, t2, e2, h2, e3⟩
  refine ⟨?_, hN.below⟩
  have h1' : [v1] = [Value.string ⟨t.toArray⟩] := h1
  have h2' : [v2] = [Value.int .i64 k] := h2
  have e3' : t2 = [] := e3
  obtain rfl : v1 = Value.string ⟨t.toArray⟩ := by simpa using h1'
  obtain rfl : v2 = Value.int .i64 k := by simpa using h2'
  subst e3' e2
  have : vs = #[Value.string ⟨t.toArray⟩, Value.int .i64 k] := Array.ext' e1
  rw [this]; rfl
set_option maxRecDepth 100000 in
set_option maxHeartbeats 2000000 in
theorem read_calls (n : Nat) (s : Tx) (hl : s.length ≤ 1099511627776) (hC : readC n s = true) (w : World) (hbs : Bs w.heap.size w) :
    Calls Tryd.prog 6 #[.string (bytesOf s)] w fun e W' =>
      ∃ v, e = .returned (.tuple #[v, .int .i64 (readV n s).2]) ∧ W'.ownsRow w.heap.size 3 1 v (readV n s).1.length (ivs (readV n s).1) ∧ Below w.heap.size w W' := by
  obtain ⟨i0, hi, hz0, hz1, hz2⟩ := info_parts infoInt
  refine (callsIn_wide (n := 5)).1 ?_
  refine callsIn_of_wp_marks Tryd.func6 rfl trivial ?_ rfl
  simp only [Tryd.ntmps6, List.size_toArray, List.length_cons, List.length_nil, Nat.reduceAdd, Nat.reduceSub, Array.replicate_succ, Array.replicate_zero, List.push_toArray, List.append_toArray, List.nil_append, List.cons_append]
  gi_wp2
  refine And.intro trivial ?_
  refine (seq_in _ s _).mono ?_
  rintro e w1 ⟨rfl, rfl⟩
  gi_wp2
  simp only [Nat.add_assoc, Nat.reduceAdd]
  obtain ⟨w1, hw1⟩ : ∃ w1, (((((w.alloc (.cells #[.slice none 0 0] 22)).alloc (.cells #[.int .i64 0] 23)).alloc (.cells #[.slice none 0 0] 22)).alloc (.cells #[.string (bytesOf s)] 9)).alloc (.cells #[.string (bytesOf [46])] 9)).alloc (.cells #[.int .i64 0] 3) = w1 := ⟨_, rfl⟩
  rw [hw1]
  have up : ∀ (W : World) (o : Obj) (k : Nat) (x : Obj), W.heap[k]? = some x → (W.alloc o).heap[k]? = some x := fun W o k x h => (Below.heap_alloc W o k (Array.getElem?_eq_some_iff.1 h).1).trans h
  have nw : ∀ (W : World) (o : Obj) (k : Nat), W.heap.size = k → (W.alloc o).heap[k]? = some o := fun W o k h => by rw [← h]; exact World.alloc_heap_new W o
  have hs1 : w1.heap.size = w.heap.size + 6 := by rw [← hw1]; simp
  have hB1 : Below w.heap.size w w1 := by rw [← hw1]; exact ((((((Below.refl _ w).alloc (Nat.le_refl _) _).alloc (by simp) _).alloc (by simp; omega) _).alloc (by simp; omega) _).alloc (by simp; omega) _).alloc (by simp; omega) _
  have hR1 : Boxed w1 w.heap.size 22 (.slice none 0 0) := by rw [← hw1]; exact up _ _ _ _ (up _ _ _ _ (up _ _ _ _ (up _ _ _ _ (up _ _ _ _ (nw _ _ _ rfl)))))
  have hR2 : Boxed w1 (w.heap.size + 1) 23 (.int .i64 0) := by rw [← hw1]; exact up _ _ _ _ (up _ _ _ _ (up _ _ _ _ (up _ _ _ _ (nw _ _ _ (by simp)))))
  have hO : Boxed w1 (w.heap.size + 2) 22 (.slice none 0 0) := by rw [← hw1]; exact up _ _ _ _ (up _ _ _ _ (up _ _ _ _ (nw _ _ _ (by simp))))
  have hBx : Boxes (w.heap.size + 4) (w.heap.size + 3) (w.heap.size + 5) s w1 := by
    rw [← hw1]
    exact ⟨up _ _ _ _ (nw _ _ _ (by simp)), up _ _ _ _ (up _ _ _ _ (nw _ _ _ (by simp))), nw _ _ _ (by simp)⟩
  clear hw1 up nw
  obtain ⟨h01, h11, htab⟩ := (hbs.2 rfl).1.2 rfl
  have tabs : ∀ W, Below w.heap.size w W → TabsAt W := fun W hb => htab.keep (hb.block _ h01) (hb.block _ h11)
  refine range_box (by omega) (gf := 30) (lb := #[.pointer (some ⟨w.heap.size + 4, 0, none⟩), .pointer (some ⟨w.heap.size + 3, 0, none⟩), .pointer (some ⟨w.heap.size + 5, 0, none⟩)]) rfl (enters_of Tryd.func30 (by kernel_rfl) rfl)
    (encs := fun x : Tx => #[.string (bytesOf x)]) (Bn := w.heap.size + 3) (bs := fun b => b = w.heap.size + 4 ∨ b = w.heap.size + 3 ∨ b = w.heap.size + 5) (S := fun ys => ys = pcs s) (Sp := fun pre => pre <+: pcs s)
    (fun b hb => by rcases hb with h | h | h <;> omega) (.inr (.inl rfl)) (seq_box _ _ _ _ (by omega) (by omega) s (by omega) w1 hBx) (fun _ => rfl)
    (fun pre W => ∃ l, ints pre = some l ∧ RI w l W) (fun pre W => ints pre = none ∧ RX w W)
    (fun pre X Y row h hg hr => by obtain ⟨l, e, h⟩ := h; exact ⟨l, e, RI.stays hs1 X Y row h hg hr⟩)
    (fun pre X Y row h hg hr => ⟨h.1, RX.stays hs1 X Y row h.2 hg hr⟩)
    ⟨[], rfl, ⟨_, hO, World.ownsRow_nil _ _ _ _⟩, ⟨hR1, hR2⟩, hB1, by omega⟩
    (fun x => { tmps := #[.string (bytesOf s), undef, .pointer (some ⟨w.heap.size, 0, none⟩), .pointer (some ⟨w.heap.size + 1, 0, none⟩), .pointer (some ⟨w.heap.size + 2, 0, none⟩), .string (bytesOf x), undef, undef, undef, undef, .string (bytesOf s), .func (.func 30) #[] #[.pointer (some ⟨w.heap.size + 4, 0, none⟩), .pointer (some ⟨w.heap.size + 3, 0, none⟩), .pointer (some ⟨w.heap.size + 5, 0, none⟩)], .string (bytesOf x), undef, undef, undef, undef, undef, undef, undef, undef, undef, undef, undef, undef, undef, undef, undef, undef, undef, undef, undef, undef, undef, undef, undef, undef], defers := [] }) ?assign ?body ?done ?stop
  case assign =>
    intro l x W K hK
    gi_wp2
    exact hK
  case stop =>
    rintro D pre W hD hpre ⟨hx, ⟨h1, h2⟩, hb⟩ hK
    gi_wp2
    refine ⟨by simp, .inl ⟨_, _, rfl, run_takeDeferred hK, ?_⟩⟩
    have e1 : Boxed (W.putObj D (.deferred none)) w.heap.size 22 (.slice none 0 0) := (World.putObj_heap_other (by omega)).trans h1
    have e2 : Boxed (W.putObj D (.deferred none)) (w.heap.size + 1) 23 (.int .i64 4) := (World.putObj_heap_other (by omega)).trans h2
    have b1 := belowK_b (w := w) (Nat.le_refl _) W D _ (.deferred none) (by omega) hK rfl rfl
    obtain ⟨rest, hr⟩ := hpre
    have hV : readV n s = ([], 4) := by
      unfold readV
      rw [← hr, ints_app, hx]; rfl
    refine ⟨_, resR _ _ _ _ _ _ rfl rfl e1 e2, _, by rw [hV], ?_, hb.trans b1⟩
    rw [hV]
    exact World.ownsRow_nil _ _ _ _
  case body =>
    rintro l pre x W ⟨lv, hlv, ⟨v, hv, hrow⟩, ⟨h1, h2⟩, hB, hz⟩ hpre
    have hxl : x.length ≤ 281474976710656 := by
      have := pcs_mem s x (hpre.subset (by simp))
      omega
    gi_wp2
    refine And.intro trivial ?_
    refine (CallsIn.inRound l (callsIn_wide.2 (atoi_calls x hxl W (tabs W hB)))).mono ?_
    rintro e W1 ⟨hb1, hres⟩
    have hg1 := grownB hb1
    have hv1 : Boxed W1 (w.heap.size + 2) 22 v := hv.kept hg1 (by simp)
    have h11' : Boxed W1 w.heap.size 22 (.slice none 0 0) := h1.kept hg1 (by simp)
    have h21' : Boxed W1 (w.heap.size + 1) 23 (.int .i64 0) := h2.kept hg1 (by simp)
    have hrow1 := hrow.kept hg1 (by cases hq : v.ownBlock with | none => exact .inl rfl | some q => exact .inr (by simp))
    have hB2 : Below w.heap.size w W1 := hB.trans (hb1.mono hB.size)
    have hz1' : w.heap.size + 6 ≤ W1.heap.size := Nat.le_trans hz hb1.size
    have hk1 : KeepsFrom w1.heap.size W W1 := KeepsFrom.of_grownBy hg1 (fun j e => by cases e)
    have hbk : ∀ b, b < w.heap.size + 6 → W1.heap[b]? = W.heap[b]? := fun b hb => hb1.block b (by omega)
    have hlen : lv.length ≤ 1099511627776 := by
      have h3 := ints_len _ _ hlv
      have h4 := hpre.length_le
      have h5 := pcs_len s
      simp at h4
      omega
    have hss : W.heap.size ≤ W1.heap.size := hb1.size
    clear hv hrow h1 h2 hB hg1 hb1
    have hc := hv1.cell
    have hc1 := h11'.cell
    have hc2 := h21'.cell
    have hf1 := h11'.frozen
    have hf2 := h21'.frozen
    rcases hres with ⟨k, hk, rfl⟩ | ⟨hk, k, t, N, rfl⟩
    · gi_wp2_with (gi_at_builtin; refine wpListIn_append_own _ rfl _ _ 22 rfl (w.heap.size + 6) 3 i0 (.int .i64 0) 1 8 Tryd.underlying22 hi hz0 hz1 hz2 rfl (by decide) _ _ _ rfl (hrow1.alloc _) ⟨W1.heap.size, 0, none⟩ 1 1 [.int .i64 k] rfl rfl (cell_one_new _ _ _) (by simp [Value.oneCell']) (by unfold maxLen; omega) (by omega) (by simp; omega) ?_; intro v' w2 hown' hgrow _; obtain ⟨g', cap', rfl⟩ := ownsRow_succ hown'; obtain ⟨hv2, hv3, hr3, hk3, hb3⟩ := hv1.appended (by decide) (ownsRow_base hrow1 (by omega)) hB2.size (by omega) (ownsRow_base hown' (by omega)) hgrow; have hc3 := hv2.cell; have hf3 := hv2.frozen)
      have hkb : ∀ b, b < w.heap.size + 6 → b ≠ w.heap.size + 2 → (w2.setCell ⟨w.heap.size + 2, 0, none⟩ (.slice (some ⟨g', 0, none⟩) (lv.length + 1) cap')).heap[b]? = W1.heap[b]? := fun b hb hne => by
        refine (Below.heap_setCell _ _ _ b hne).trans ((hgrow.block b (by simp; omega) fun e => ?_).trans (Below.heap_alloc _ _ b (by omega)))
        have := (hrow1.lt b e.symm).1
        omega
      refine ⟨hk1.trans (hk3.from _), ⟨Nat.le_trans hss hb3.size, fun b hb => ?_⟩, lv ++ [k], ?_, ⟨_, hv3, ?_⟩, ⟨?_, ?_⟩, hB2.trans hb3, Nat.le_trans hz1' hb3.size⟩
      · rcases hb with rfl | rfl | rfl
        · exact (hkb _ (by omega) (by omega)).trans (hbk _ (by omega))
        · exact (hkb _ (by omega) (by omega)).trans (hbk _ (by omega))
        · exact (hkb _ (by omega) (by omega)).trans (hbk _ (by omega))
      · rw [ints_app, hlv, ints_one, hk]; rfl
      · have hr4 := hown'.kept (grownBy_setCell' w2 (w.heap.size + 2) (.slice (some ⟨g', 0, none⟩) (lv.length + 1) cap')) (.inr fun e => by have := (hown'.lt _ e).1; omega)
        have e1 : ivs (lv ++ [k]) = ivs lv ++ [.int .i64 k] := by simp [ivs]
        rw [e1, List.length_append]
        exact hr4
      · exact (hkb _ (by omega) (by omega)).trans h11'
      · exact (hkb _ (by omega) (by omega)).trans h21'
    · gi_wp2
      refine ⟨hk1.trans (((KeepsOthers.setCell _ _ _).from _).trans ((KeepsOthers.setCell _ _ _).from _)), ?_, ⟨?_, ?_⟩, ?_⟩
      · rw [ints_app, hlv, ints_one, hk]; rfl
      · exact Boxed.other (Boxed.set _ h11') (by omega) _
      · exact Boxed.set _ (Boxed.other h21' (by omega) _)
      · exact (hB2.setCell (p := ⟨w.heap.size, 0, none⟩) (Nat.le_refl _) _).setCell (p := ⟨w.heap.size + 1, 0, none⟩) (by simp) _
  case done =>
    rintro D ys W hD rfl ⟨lv, hlv, ⟨v, hv, hrow⟩, ⟨h1, h2⟩, hB, hz⟩ hK
    obtain ⟨t, k, hs⟩ : ∃ t k, F4 n lv = some (t, k) := by
      unfold readC at hC
      rw [hlv] at hC
      simp only [Bool.and_eq_true] at hC
      obtain ⟨r, hr⟩ := Option.isSome_iff_exists.1 hC.2
      exact ⟨r.1, r.2, hr⟩
    obtain ⟨ad, m0, c0, rfl⟩ : ∃ ad m c, v = .slice ad m c := by
      rcases hrow.2 with ⟨rfl, _⟩ | ⟨g, cap, cur, rfl, _⟩
      · exact ⟨_, _, _, rfl⟩
      · exact ⟨_, _, _, rfl⟩
    have hc := hv.cell
    gi_wp2
    refine And.intro trivial ?_
    refine (callsIn_wide.2 (show_calls n lv t k hs W (Bs.whole (hbs.below hB)) _ (.slice ad m0 c0) hrow)).mono ?_
    rintro e W2 ⟨rfl, hb2⟩
    have hDlt : D < W.heap.size := (Array.getElem?_eq_some_iff.1 hK).1
    have hK2 : W2.heap[D]? = some (.deferred (some [])) := (hb2.block D hDlt).trans hK
    have hg2 := grownB hb2
    have hv2 : Boxed W2 (w.heap.size + 2) 22 (.slice ad m0 c0) := hv.kept hg2 (by simp)
    have h12 : Boxed W2 w.heap.size 22 (.slice none 0 0) := h1.kept hg2 (by simp)
    have h22 : Boxed W2 (w.heap.size + 1) 23 (.int .i64 0) := h2.kept hg2 (by simp)
    have hrow2 := hrow.kept hg2 (by cases hq : (Value.slice ad m0 c0).ownBlock with | none => exact .inl rfl | some q => exact .inr (by simp))
    have hB2 : Below w.heap.size w W2 := hB.trans (hb2.mono hB.size)
    clear hv hrow h1 h2 hB hg2 hb2 hK hc
    have hc := hv2.cell
    have hc1 := h12.cell
    have hc2 := h22.cell
    have hf1 := h12.frozen
    have hf2 := h22.frozen
    have hV : readV n s = bif k == 0 && t == s then (lv, 0) else ([], 4) := by
      unfold readV
      rw [hlv]
      dsimp only
      rw [hs]
    -- how it ends: two results are laid, the deferred calls are taken
    have fin : ∀ (u : Value) (j : Int), (((W2.setCell ⟨w.heap.size, 0, none⟩ u).setCell ⟨w.heap.size + 1, 0, none⟩ (.int .i64 j)).heap[D]? = some (.deferred (some []))) ∧
        Boxed (((W2.setCell ⟨w.heap.size, 0, none⟩ u).setCell ⟨w.heap.size + 1, 0, none⟩ (.int .i64 j)).putObj D (.deferred none)) w.heap.size 22 u ∧
        Boxed (((W2.setCell ⟨w.heap.size, 0, none⟩ u).setCell ⟨w.heap.size + 1, 0, none⟩ (.int .i64 j)).putObj D (.deferred none)) (w.heap.size + 1) 23 (.int .i64 j) ∧
        Below w.heap.size w (((W2.setCell ⟨w.heap.size, 0, none⟩ u).setCell ⟨w.heap.size + 1, 0, none⟩ (.int .i64 j)).putObj D (.deferred none)) := by
      intro u j
      have k1 : ((W2.setCell ⟨w.heap.size, 0, none⟩ u).setCell ⟨w.heap.size + 1, 0, none⟩ (.int .i64 j)).heap[D]? = some (.deferred (some [])) := (Below.heap_setCell _ _ _ D (by show D ≠ w.heap.size + 1; omega)).trans ((Below.heap_setCell _ _ _ D (by show D ≠ w.heap.size; omega)).trans hK2)
      refine ⟨k1, (World.putObj_heap_other (by omega)).trans (Boxed.other (Boxed.set u h12) (by omega) _), (World.putObj_heap_other (by omega)).trans (Boxed.set _ (Boxed.other h22 (by omega) _)), ?_⟩
      exact ((hB2.setCell (p := ⟨w.heap.size, 0, none⟩) (Nat.le_refl _) _).setCell (p := ⟨w.heap.size + 1, 0, none⟩) (by simp) _).trans (belowK_b (w := w) (Nat.le_refl _) _ D _ (.deferred none) (by omega) k1 rfl rfl)
    by_cases hk0 : k = 0
    · subst hk0
      have hq : ((bytesOf t).toList == (bytesOf s).toList) = (t == s) := by
        rw [show (bytesOf t).toList = t from str_toList t, show (bytesOf s).toList = s from str_toList s]
      by_cases hts : t = s
      · have hq2 : ((bytesOf t).toList == (bytesOf s).toList) = true := by rw [hq]; simpa using hts
        have hV2 : readV n s = (lv, 0) := by rw [hV]; simp [hts]
        clear hV hq
        gi_wp2
        obtain ⟨f1, f2, f3, f4⟩ := fin (.slice ad m0 c0) 0
        refine ⟨by simp, .inl ⟨_, _, rfl, run_takeDeferred f1, ?_⟩⟩
        refine ⟨_, resR _ _ _ _ _ _ rfl rfl f2 f3, _, by rw [hV2], ?_, f4⟩
        rw [hV2]
        refine ownsRow_putObj ?_ _ f1 rfl
        exact (ownsRow_base ((hrow2.kept (grownBy_setCell' W2 w.heap.size (.slice ad m0 c0)) (.inr fun e => by have := (hrow2.lt _ e).1; omega)).kept (grownBy_setCell' _ (w.heap.size + 1) (.int .i64 0)) (.inr fun e => by have := (hrow2.lt _ e).1; omega)) (by omega))
      · have hq2 : ((bytesOf t).toList == (bytesOf s).toList) = false := by rw [hq]; simpa using hts
        have hV2 : readV n s = ([], 4) := by
          rw [hV, show (t == s) = false by simpa using hts]; rfl
        clear hV hq
        gi_wp2
        obtain ⟨f1, f2, f3, f4⟩ := fin (.slice none 0 0) 4
        refine ⟨by simp, .inl ⟨_, _, rfl, run_takeDeferred f1, ?_⟩⟩
        refine ⟨_, resR _ _ _ _ _ _ rfl rfl f2 f3, _, by rw [hV2], ?_, f4⟩
        rw [hV2]
        exact World.ownsRow_nil _ _ _ _
    · have hk1 : (k == 0) = false := by simpa using hk0
      have hV2 : readV n s = ([], 4) := by rw [hV, hk1]; rfl
      clear hV
      gi_wp2
      obtain ⟨f1, f2, f3, f4⟩ := fin (.slice none 0 0) 4
      refine ⟨by simp, .inl ⟨_, _, rfl, run_takeDeferred f1, ?_⟩⟩
      refine ⟨_, resR _ _ _ _ _ _ rfl rfl f2 f3, _, by rw [hV2], ?_, f4⟩
      rw [hV2]
      exact World.ownsRow_nil _ _ _ _
end Go.Proofs.YtgjklpadcmedkaaDoor
