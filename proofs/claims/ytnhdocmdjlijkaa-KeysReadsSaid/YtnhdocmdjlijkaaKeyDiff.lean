/- keys.Diff: what leads from one set to another. -/
import Derived.Test.YtnhdocmdjlijkaaKeyIter
namespace Go.Proofs.Ytnhdocmdjlijkaa
open Go Go.RowKit Go.Shelf
set_option linter.unusedVariables false
attribute [local go_sem] Oper.semAt_some

def diff1 (old now : BitsL) (pre : List C256) : List (Int × Bool) := (pre.filter fun c => !hasB now c.val).map fun c => (((c.val : Nat) : Int), false)
def diff2 (old now : BitsL) (pre : List C256) : List (Int × Bool) := (pre.filter fun c => !hasB old c.val).map fun c => (((c.val : Nat) : Int), true)
def keyCs (l : List (Int × Bool)) : List Value := l.flatMap fun p => [.int .i64 p.1, .bool p.2]
theorem keyCs_app (a b : List (Int × Bool)) : keyCs (a ++ b) = keyCs a ++ keyCs b := by simp [keyCs]
theorem cellsObj_kept {A B : World} {row : Option Nat} {b : Nat} {cs : Array Value} {t : TypeId} {fr : Nat × Nat} (h : A.heap[b]? = some (.cells cs t fr)) (hg : A.grownBy B row) (hr : ∀ r, row = some r → ∃ o : Obj, A.heap[r]? = some o ∧ o.isCells = false) : B.heap[b]? = some (.cells cs t fr) := by
  refine (hg.block b (Array.getElem?_eq_some_iff.1 h).1 fun e => ?_).trans h
  obtain ⟨o, ho, hc⟩ := hr b e.symm
  rw [h] at ho; cases ho; cases hc
theorem info36 : (Try.prog.info? 36).map (fun i => (i.zero, i.size, i.bytes)) = some (some (.agg #[.int .i64 0, .bool false]), 2, 16) := by kernel_rfl
/-- four cells in a box -/
def Held4 (W : World) (B : Nat) (b0 b1 b2 b3 : Int) : Prop := W.heap[B]? = some (.cells #[.int .u64 b0, .int .u64 b1, .int .u64 b2, .int .u64 b3] 25 (0, 0))
theorem Held4.cells {W : World} {B : Nat} {b0 b1 b2 b3 : Int} (h : Held4 W B b0 b1 b2 b3) : W.cell? ⟨B, 0, none⟩ = some (.int .u64 b0) ∧ W.cell? ⟨B, 1, none⟩ = some (.int .u64 b1) ∧ W.cell? ⟨B, 2, none⟩ = some (.int .u64 b2) ∧ W.cell? ⟨B, 3, none⟩ = some (.int .u64 b3) := by
  unfold Held4 at h
  simp [World.cell?, h]
theorem cell_two_new (w : World) (x y : Value) (t : TypeId) : ∀ j u, [x, y][j]? = some u → (w.alloc (.cells #[x, y] t)).cell? ((⟨w.heap.size, 0, none⟩ : Addr).add j) = some u := by
  intro j u hj
  match j, hj with
  | 0, hj => simp at hj; subst hj; simp [Addr.add]
  | 1, hj => simp at hj; subst hj; simp [Addr.add]
theorem boxed_kept2 {A B : World} {row : Option Nat} {b : Nat} {t : TypeId} {v : Value} (h : Boxed A b t v) (hg : A.grownBy B row) (hr : ∀ r, row = some r → ∃ o : Obj, A.heap[r]? = some o ∧ o.isCells = false) : Boxed B b t v := cellsObj_kept h hg hr
theorem grown_of_below {A B : World} (h : Below A.heap.size A B) : A.grownBy B none := ⟨h.os, h.tape, h.output, h.size, fun b hb _ => h.block b hb⟩
theorem four_boxes (w : World) (o1 o2 o3 o4 : Obj) : ((((w.alloc o1).alloc o2).alloc o3).alloc o4).heap[w.heap.size]? = some o1 ∧ ((((w.alloc o1).alloc o2).alloc o3).alloc o4).heap[w.heap.size + 1]? = some o2 ∧ ((((w.alloc o1).alloc o2).alloc o3).alloc o4).heap[w.heap.size + 2]? = some o3 ∧ ((((w.alloc o1).alloc o2).alloc o3).alloc o4).heap[w.heap.size + 3]? = some o4 := by
  have h1 := World.alloc_heap_new w o1
  have h2 := World.alloc_heap_new (w.alloc o1) o2
  have h3 := World.alloc_heap_new ((w.alloc o1).alloc o2) o3
  have h4 := World.alloc_heap_new (((w.alloc o1).alloc o2).alloc o3) o4
  simp only [World.size_alloc] at h2 h3 h4
  have up : ∀ (W : World) (o : Obj) (k : Nat) (x : Obj), W.heap[k]? = some x → (W.alloc o).heap[k]? = some x := fun W o k x h => (Below.heap_alloc W o k (Array.getElem?_eq_some_iff.1 h).1).trans h
  exact ⟨up _ _ _ _ (up _ _ _ _ (up _ _ _ _ h1)), up _ _ _ _ (up _ _ _ _ h2), up _ _ _ _ h3, h4⟩
theorem codesB_len (b : BitsL) : (codesB b).length ≤ 256 := by
  unfold codesB
  exact Nat.le_trans (List.length_filter_le _ _) (by simp)
theorem diff1_len (o n : BitsL) (pre : List C256) : (diff1 o n pre).length ≤ pre.length := by unfold diff1; rw [List.length_map]; exact List.length_filter_le _ _
theorem diff2_len (o n : BitsL) (pre : List C256) : (diff2 o n pre).length ≤ pre.length := by unfold diff2; rw [List.length_map]; exact List.length_filter_le _ _
theorem diff1_snoc (o n : BitsL) (pre : List C256) (x : C256) : diff1 o n (pre ++ [x]) = diff1 o n pre ++ (if hasB n x.val = true then [] else [(((x.val : Nat) : Int), false)]) := by
  unfold diff1
  rw [List.filter_append, List.map_append]
  cases h : hasB n x.val <;> simp [h]
theorem diff2_snoc (o n : BitsL) (pre : List C256) (x : C256) : diff2 o n (pre ++ [x]) = diff2 o n pre ++ (if hasB o x.val = true then [] else [(((x.val : Nat) : Int), true)]) := by
  unfold diff2
  rw [List.filter_append, List.map_append]
  cases h : hasB o x.val <;> simp [h]
theorem held_app {W1 w2 : World} {b B5 : Nat} {b0 b1 b2 b3 : Int} {base k : Nat} {v v' : Value} {xs : List Value} {tmp : Obj} (h : Held4 W1 b b0 b1 b2 b3) (hrow : W1.ownsRow base 36 2 v k xs) (hg : (W1.alloc tmp).grownBy w2 v.ownBlock) (hne : b ≠ B5) : Held4 (w2.setCell ⟨B5, 0, none⟩ v') b b0 b1 b2 b3 := by
  have hlt := (Array.getElem?_eq_some_iff.1 h).1
  have h1 : (W1.alloc tmp).heap[b]? = W1.heap[b]? := Below.heap_alloc W1 tmp b hlt
  have h2 : w2.heap[b]? = (W1.alloc tmp).heap[b]? := by
    refine hg.block b (by rw [World.size_alloc]; omega) fun e => ?_
    rcases hrow.2 with ⟨rfl, _⟩ | ⟨g, cap, cur, rfl, _, hgb, _⟩
    · simp [Value.ownBlock] at e
    · obtain rfl : b = g := by simpa [Value.ownBlock] using e
      unfold Held4 at h
      rw [h] at hgb
      simp at hgb
  have h3 : (w2.setCell ⟨B5, 0, none⟩ v').heap[b]? = w2.heap[b]? := Below.heap_setCell _ _ _ b hne
  exact h3.trans (h2.trans (h1.trans h))
/-- what the loops keep: the list so far, the two sets -/
def DI (w : World) (a0 a1 a2 a3 c0 c1 c2 c3 : Int) (l : List (Int × Bool)) (W : World) : Prop :=
  (∃ v, Boxed W (w.heap.size + 2) 32 v ∧ W.ownsRow w.heap.size 36 2 v l.length (keyCs l)) ∧ (Held4 W w.heap.size a0 a1 a2 a3 ∧ Held4 W (w.heap.size + 1) c0 c1 c2 c3) ∧ Below w.heap.size w W
theorem DI.own {w : World} {a0 a1 a2 a3 c0 c1 c2 c3 : Int} {B : Nat} (hB : w.heap.size ≤ B) (f : List C256 → List (Int × Bool)) : OwnFrom B (fun pre W => DI w a0 a1 a2 a3 c0 c1 c2 c3 (f pre) W) := by
  rintro s X Y row ⟨⟨v, hv, hr⟩, ⟨h1, h2⟩, hb⟩ hg hrow
  have hrow' : ∀ r, row = some r → ∃ o : Obj, X.heap[r]? = some o ∧ o.isCells = false := fun r e => (hrow r e).2
  refine ⟨⟨v, cellsObj_kept hv hg hrow', hr.kept hg ?_⟩, ⟨cellsObj_kept h1 hg hrow', cellsObj_kept h2 hg hrow'⟩, hb.grown hg hb.size fun j e => Nat.le_trans hB (hrow j e).1⟩
  rcases hr.2 with ⟨rfl, _⟩ | ⟨g, cap, cur, rfl, _, hgb, _⟩
  · exact .inl rfl
  · refine .inr fun e' => ?_
    obtain ⟨o, ho, hc⟩ := hrow' g (by simpa [Value.ownBlock] using e'.symm)
    rw [hgb] at ho; cases ho; cases hc
set_option maxRecDepth 100000 in
set_option maxHeartbeats 2000000 in
theorem diff_calls (a0 a1 a2 a3 c0 c1 c2 c3 : Int) (w : World) :
    Calls Try.prog 19 #[.agg #[.int .u64 a0, .int .u64 a1, .int .u64 a2, .int .u64 a3], .agg #[.int .u64 c0, .int .u64 c1, .int .u64 c2, .int .u64 c3]] w fun e W' =>
      ∃ v, e = .returned v ∧ W'.ownsRow w.heap.size 36 2 v (diff1 [a0, a1, a2, a3] [c0, c1, c2, c3] (codesB [a0, a1, a2, a3]) ++ diff2 [a0, a1, a2, a3] [c0, c1, c2, c3] (codesB [c0, c1, c2, c3])).length (keyCs (diff1 [a0, a1, a2, a3] [c0, c1, c2, c3] (codesB [a0, a1, a2, a3]) ++ diff2 [a0, a1, a2, a3] [c0, c1, c2, c3] (codesB [c0, c1, c2, c3]))) ∧ Below w.heap.size w W' := by
  obtain ⟨i0, hi, hz0, hz1, hz2⟩ := info_parts info36
  refine (callsIn_wide (n := 5)).1 ?_
  refine callsIn_of_wp_marks Try.func19 rfl trivial ?_ rfl
  simp only [Try.ntmps19, List.size_toArray, List.length_cons, List.length_nil, Nat.reduceAdd, Nat.reduceSub, Array.replicate_succ, Array.replicate_zero, List.push_toArray, List.append_toArray, List.nil_append, List.cons_append]
  gi_wp2
  refine And.intro trivial ?_
  refine (codes_in _ a0 a1 a2 a3 _).mono ?_
  rintro e w1 ⟨rfl, rfl⟩
  gi_wp2
  -- where the first loop begins
  obtain ⟨w1, hw1⟩ : ∃ w1, (((w.alloc (.cells #[.int .u64 a0, .int .u64 a1, .int .u64 a2, .int .u64 a3] 25)).alloc (.cells #[.int .u64 c0, .int .u64 c1, .int .u64 c2, .int .u64 c3] 25)).alloc (.cells #[.slice none 0 0] 32)).alloc (.cells #[.int .u64 a0, .int .u64 a1, .int .u64 a2, .int .u64 a3] 25) = w1 := ⟨_, rfl⟩
  have hs1 : w1.heap.size = w.heap.size + 4 := by rw [← hw1]; simp
  have hB1 : Below w.heap.size w w1 := by rw [← hw1]; exact ((((Below.refl _ w).alloc (Nat.le_refl _) _).alloc (by simp) _).alloc (by simp; omega) _).alloc (by simp; omega) _
  obtain ⟨hO, hN, hL, hC⟩ := four_boxes w (.cells #[.int .u64 a0, .int .u64 a1, .int .u64 a2, .int .u64 a3] 25) (.cells #[.int .u64 c0, .int .u64 c1, .int .u64 c2, .int .u64 c3] 25) (.cells #[.slice none 0 0] 32) (.cells #[.int .u64 a0, .int .u64 a1, .int .u64 a2, .int .u64 a3] 25)
  rw [hw1] at hO hN hL hC
  replace hO : Held4 w1 w.heap.size a0 a1 a2 a3 := hO
  replace hN : Held4 w1 (w.heap.size + 1) c0 c1 c2 c3 := hN
  replace hL : Boxed w1 (w.heap.size + 2) 32 (.slice none 0 0) := hL
  replace hC : Held4 w1 (w.heap.size + 3) a0 a1 a2 a3 := hC
  rw [hw1]
  clear hw1
  refine wpIn_rangeFunc_ownG rfl (by omega) (gf := 113) (lb := #[.pointer (some ⟨w.heap.size + 3, 0, none⟩)]) rfl trivial (enters_of Try.func113 (by kernel_rfl) rfl)
    (codes_stops _ (w.heap.size + 3) a0 a1 a2 a3 w1 (by omega) hC.cells) boxKept_t (boxKept_b (by omega)) (Below.refl _ _) (fun _ => rfl)
    (fun pre W => DI w a0 a1 a2 a3 c0 c1 c2 c3 (diff1 [a0, a1, a2, a3] [c0, c1, c2, c3] pre) W ∧ Held4 W (w.heap.size + 3) a0 a1 a2 a3)
    (fun _ _ _ => False)
    (OwnFrom.and (DI.own (by omega) _) (fun s X Y row hs hg hr => cellsObj_kept hs hg (fun r e => (hr r e).2)))
    (fun _ _ _ _ _ hs _ _ => hs)
    ⟨⟨⟨_, hL, World.ownsRow_nil _ _ _ _⟩, ⟨hO, hN⟩, hB1⟩, hC⟩
    (fun x => { tmps := #[.agg #[.int .u64 a0, .int .u64 a1, .int .u64 a2, .int .u64 a3], .agg #[.int .u64 c0, .int .u64 c1, .int .u64 c2, .int .u64 c3], .pointer (some ⟨w.heap.size, 0, none⟩), .pointer (some ⟨w.heap.size + 1, 0, none⟩), .slice none 0 0, .pointer (some ⟨w.heap.size + 1 + 1, 0, none⟩), .int .i64 ((x.val : Nat) : Int), undef, .agg #[.int .u64 a0, .int .u64 a1, .int .u64 a2, .int .u64 a3], .func (.func 113) #[] #[.pointer (some ⟨w.heap.size + 1 + 1 + 1, 0, none⟩)], .int .i64 ((x.val : Nat) : Int), undef, undef, undef, undef, undef, undef, undef, undef, undef, undef, undef, undef, undef, undef, undef, undef, undef, undef, undef, undef, undef, undef], defers := [] }) ?assign ?body ?done ?stop
  case assign =>
    intro l x W K hK
    gi_wp2
    exact hK
  case stop =>
    rintro D c pre W _ _ h _
    exact h.elim
  case body =>
    rintro l pre x W ⟨⟨⟨v, hv, hrow⟩, ⟨hO2, hN2⟩, hB⟩, hC2⟩ hlt
    obtain ⟨hn0, hn1, hn2, hn3⟩ := hN2.cells
    gi_wp2
    refine And.intro trivial ?_
    refine (CallsIn.inRound l (callsIn_wide.2 (has_calls c0 c1 c2 c3 x.val x.isLt _))).mono ?_
    rintro e W1 ⟨rfl, hb1⟩
    have hg1 := grown_of_below hb1
    have hv1 : Boxed W1 (w.heap.size + 2) 32 v := hv.kept hg1 (by simp)
    have hrow1 := hrow.kept hg1 (by cases hq : v.ownBlock with | none => exact .inl rfl | some q => exact .inr (by simp))
    have hO1 : Held4 W1 w.heap.size a0 a1 a2 a3 := cellsObj_kept hO2 hg1 (fun r e => by cases e)
    have hN1 : Held4 W1 (w.heap.size + 1) c0 c1 c2 c3 := cellsObj_kept hN2 hg1 (fun r e => by cases e)
    have hC1 : Held4 W1 (w.heap.size + 3) a0 a1 a2 a3 := cellsObj_kept hC2 hg1 (fun r e => by cases e)
    have hB2 : Below w.heap.size w W1 := hB.trans (hb1.mono hB.size)
    have hk1 : KeepsFrom w1.heap.size W W1 := KeepsFrom.of_grownBy hg1 (fun j e => by cases e)
    have hbk : BoxKept (w.heap.size + 3) W W1 := ⟨hb1.size, hb1.block _ (Array.getElem?_eq_some_iff.1 hC2).1⟩
    have hlen : (diff1 [a0, a1, a2, a3] [c0, c1, c2, c3] pre).length ≤ 256 := by
      have h1 := diff1_len [a0, a1, a2, a3] [c0, c1, c2, c3] pre
      have h2 := codesB_len [a0, a1, a2, a3]
      omega
    clear hv hrow hO2 hN2 hC2 hB hg1 hn0 hn1 hn2 hn3 hb1
    have hc := hv1.cell
    cases hx : hasB [c0, c1, c2, c3] x.val with
    | true =>
      gi_wp2
      exact ⟨hk1, hbk, ⟨⟨v, hv1, by rw [diff1_snoc, if_pos hx, List.append_nil]; exact hrow1⟩, ⟨hO1, hN1⟩, hB2⟩, hC1⟩
    | false =>
      gi_wp2_with (gi_at_builtin; refine wpListIn_append_own _ rfl _ _ 32 rfl w.heap.size 36 i0 (.agg #[.int .i64 0, .bool false]) 2 16 Try.underlying32 hi hz0 hz1 hz2 rfl (by decide) _ _ _ rfl (hrow1.alloc _) ⟨W1.heap.size, 0, none⟩ 1 1 [.int .i64 ((x.val : Nat) : Int), .bool false] rfl rfl (cell_two_new _ _ _ _) (by simp [Value.oneCell']) (by unfold maxLen; omega) (by omega) (by have := hB2.size; simp; omega) ?_; intro v' w2 hown' hgrow _; obtain ⟨g', cap', rfl⟩ := ownsRow_succ hown'; obtain ⟨hv2, hv3, hr3, hk3, hb3⟩ := hv1.appended (by decide) hrow1 hB2.size (by omega) hown' hgrow; have hc1 := hv2.cell; have hf1 := hv2.frozen)
      have hO3 := held_app (v' := .slice (some ⟨g', 0, none⟩) ((diff1 [a0, a1, a2, a3] [c0, c1, c2, c3] pre).length + 1) cap') hO1 hrow1 hgrow (show w.heap.size ≠ w.heap.size + 2 by omega)
      have hN3 := held_app (v' := .slice (some ⟨g', 0, none⟩) ((diff1 [a0, a1, a2, a3] [c0, c1, c2, c3] pre).length + 1) cap') hN1 hrow1 hgrow (show w.heap.size + 1 ≠ w.heap.size + 2 by omega)
      have hC3 := held_app (v' := .slice (some ⟨g', 0, none⟩) ((diff1 [a0, a1, a2, a3] [c0, c1, c2, c3] pre).length + 1) cap') hC1 hrow1 hgrow (show w.heap.size + 3 ≠ w.heap.size + 2 by omega)
      have e1 : diff1 [a0, a1, a2, a3] [c0, c1, c2, c3] (pre ++ [x]) = diff1 [a0, a1, a2, a3] [c0, c1, c2, c3] pre ++ [(((x.val : Nat) : Int), false)] := by rw [diff1_snoc, if_neg (by rw [hx]; simp)]
      have hr4 : (w2.setCell ⟨w.heap.size + 2, 0, none⟩ (.slice (some ⟨g', 0, none⟩) ((diff1 [a0, a1, a2, a3] [c0, c1, c2, c3] pre).length + 1) cap')).ownsRow w.heap.size 36 2 (.slice (some ⟨g', 0, none⟩) ((diff1 [a0, a1, a2, a3] [c0, c1, c2, c3] pre).length + 1) cap') (diff1 [a0, a1, a2, a3] [c0, c1, c2, c3] (pre ++ [x])).length (keyCs (diff1 [a0, a1, a2, a3] [c0, c1, c2, c3] (pre ++ [x]))) := by
        rw [e1, keyCs_app, List.length_append]; exact hr3
      exact ⟨hk1.trans (hk3.from _), boxKept_t hbk ⟨hb3.size, hC3.trans hC1.symm⟩, ⟨⟨_, hv3, hr4⟩, ⟨hO3, hN3⟩, hB2.trans hb3⟩, hC3⟩
  case done =>
    rintro D ys W hD rfl ⟨⟨⟨v, hv, hrow⟩, ⟨hO2, hN2⟩, hB⟩, _⟩ hK
    obtain ⟨hn0, hn1, hn2, hn3⟩ := hN2.cells
    generalize hl1 : diff1 [a0, a1, a2, a3] [c0, c1, c2, c3] (codesB [a0, a1, a2, a3]) = l1 at *
    have hlen1 : l1.length ≤ 256 := by
      have h1 := diff1_len [a0, a1, a2, a3] [c0, c1, c2, c3] (codesB [a0, a1, a2, a3])
      have h2 := codesB_len [a0, a1, a2, a3]
      rw [hl1] at h1
      omega
    have hDW : D < W.heap.size := (Array.getElem?_eq_some_iff.1 hK).1
    gi_wp2
    refine And.intro trivial ?_
    refine (codes_in _ c0 c1 c2 c3 _).mono ?_
    rintro e w2 ⟨rfl, rfl⟩
    gi_wp2
    clear hn0 hn1 hn2 hn3
    -- where the second loop begins
    obtain ⟨w2, hw2⟩ : ∃ w2, W.alloc (.cells #[.int .u64 c0, .int .u64 c1, .int .u64 c2, .int .u64 c3] 25) = w2 := ⟨_, rfl⟩
    have hgw : W.grownBy w2 none := by rw [← hw2]; exact World.grownBy_alloc W _ none
    have hs2 : w2.heap.size = W.heap.size + 1 := by rw [← hw2]; simp
    have hO1 : Held4 w2 w.heap.size a0 a1 a2 a3 := cellsObj_kept hO2 hgw (fun r e => by cases e)
    have hN1 : Held4 w2 (w.heap.size + 1) c0 c1 c2 c3 := cellsObj_kept hN2 hgw (fun r e => by cases e)
    have hL2 : Boxed w2 (w.heap.size + 2) 32 v := hv.kept hgw (by simp)
    have hR2 := hrow.kept hgw (by cases hq : v.ownBlock with | none => exact .inl rfl | some q => exact .inr (by simp))
    have hC2 : Held4 w2 W.heap.size c0 c1 c2 c3 := by rw [← hw2]; exact World.alloc_heap_new W _
    have hK2 : w2.heap[D]? = some (.deferred (some [])) := (hgw.block D hDW (by simp)).trans hK
    have hB2 : Below w.heap.size w w2 := by rw [← hw2]; exact hB.alloc hB.size _
    rw [hw2]
    clear hw2 hv hrow hO2 hN2 hB hK hgw
    obtain ⟨W0, rfl⟩ : ∃ W0, W0 = W := ⟨_, rfl⟩
    have hW0 : w.heap.size + 4 ≤ W0.heap.size := by omega
    refine wpIn_rangeFunc_ownG rfl (by omega) (gf := 113) (lb := #[.pointer (some ⟨W0.heap.size, 0, none⟩)]) rfl trivial (enters_of Try.func113 (by kernel_rfl) rfl)
      (codes_stops _ W0.heap.size c0 c1 c2 c3 w2 (by omega) hC2.cells) boxKept_t (boxKept_b (by omega)) (Below.refl _ _) (fun _ => rfl)
      (fun pre W => DI w a0 a1 a2 a3 c0 c1 c2 c3 (l1 ++ diff2 [a0, a1, a2, a3] [c0, c1, c2, c3] pre) W ∧ (Held4 W W0.heap.size c0 c1 c2 c3 ∧ W.heap[D]? = some (.deferred (some []))))
      (fun _ _ _ => False)
      (OwnFrom.and (DI.own (by omega) _) (OwnFrom.and (fun s X Y row hs hg hr => cellsObj_kept hs hg (fun r e => (hr r e).2)) (fun s X Y row hs hg hr => (hg.block D (Array.getElem?_eq_some_iff.1 hs).1 (fun e => by have := (hr D e.symm).1; omega)).trans hs)))
      (fun _ _ _ _ _ hs _ _ => hs)
      ⟨⟨⟨_, hL2, by rw [show l1 ++ diff2 [a0, a1, a2, a3] [c0, c1, c2, c3] [] = l1 from List.append_nil _]; exact hR2⟩, ⟨hO1, hN1⟩, hB2⟩, hC2, hK2⟩
      (fun x => { tmps := #[.agg #[.int .u64 a0, .int .u64 a1, .int .u64 a2, .int .u64 a3], .agg #[.int .u64 c0, .int .u64 c1, .int .u64 c2, .int .u64 c3], .pointer (some ⟨w.heap.size, 0, none⟩), .pointer (some ⟨w.heap.size + 1, 0, none⟩), .slice none 0 0, .pointer (some ⟨w.heap.size + 1 + 1, 0, none⟩), undef, .int .i64 ((x.val : Nat) : Int), .agg #[.int .u64 a0, .int .u64 a1, .int .u64 a2, .int .u64 a3], .func (.func 113) #[] #[.pointer (some ⟨w.heap.size + 1 + 1 + 1, 0, none⟩)], undef, undef, undef, undef, undef, undef, undef, undef, undef, undef, .agg #[.int .u64 c0, .int .u64 c1, .int .u64 c2, .int .u64 c3], .func (.func 113) #[] #[.pointer (some ⟨W0.heap.size, 0, none⟩)], .int .i64 ((x.val : Nat) : Int), undef, undef, undef, undef, undef, undef, undef, undef, undef, undef], defers := [] }) ?assign ?body ?done ?stop
    case assign =>
      intro l x W K hK
      gi_wp2
      exact hK
    case stop =>
      rintro D c pre W _ _ h _
      exact h.elim
    case body =>
      rintro l pre x W ⟨⟨⟨v, hv, hrow⟩, ⟨hO2, hN2⟩, hB⟩, hC2, hKD⟩ hlt
      obtain ⟨hn0, hn1, hn2, hn3⟩ := hO2.cells
      gi_wp2
      refine And.intro trivial ?_
      refine (CallsIn.inRound l (callsIn_wide.2 (has_calls a0 a1 a2 a3 x.val x.isLt _))).mono ?_
      rintro e W1 ⟨rfl, hb1⟩
      have hg1 := grown_of_below hb1
      have hv1 : Boxed W1 (w.heap.size + 2) 32 v := hv.kept hg1 (by simp)
      have hKD1 : W1.heap[D]? = some (.deferred (some [])) := (hg1.block D (Array.getElem?_eq_some_iff.1 hKD).1 (by simp)).trans hKD
      have hrow1 := hrow.kept hg1 (by cases hq : v.ownBlock with | none => exact .inl rfl | some q => exact .inr (by simp))
      have hO1 : Held4 W1 w.heap.size a0 a1 a2 a3 := cellsObj_kept hO2 hg1 (fun r e => by cases e)
      have hN1 : Held4 W1 (w.heap.size + 1) c0 c1 c2 c3 := cellsObj_kept hN2 hg1 (fun r e => by cases e)
      have hC1 : Held4 W1 W0.heap.size c0 c1 c2 c3 := cellsObj_kept hC2 hg1 (fun r e => by cases e)
      have hB2 : Below w.heap.size w W1 := hB.trans (hb1.mono hB.size)
      have hk1 : KeepsFrom w2.heap.size W W1 := KeepsFrom.of_grownBy hg1 (fun j e => by cases e)
      have hbk : BoxKept W0.heap.size W W1 := ⟨hb1.size, hb1.block _ (Array.getElem?_eq_some_iff.1 hC2).1⟩
      have hlen : (l1 ++ diff2 [a0, a1, a2, a3] [c0, c1, c2, c3] pre).length ≤ 512 := by
        have h1 := diff2_len [a0, a1, a2, a3] [c0, c1, c2, c3] pre
        have h2 := codesB_len [c0, c1, c2, c3]
        rw [List.length_append]
        omega
      obtain ⟨lp, hlp⟩ : ∃ lp, l1 ++ diff2 [a0, a1, a2, a3] [c0, c1, c2, c3] pre = lp := ⟨_, rfl⟩
      rw [hlp] at hrow1 hlen
      clear hv hrow hO2 hN2 hC2 hB hg1 hn0 hn1 hn2 hn3 hb1
      have hc := hv1.cell
      cases hx : hasB [a0, a1, a2, a3] x.val with
      | true =>
        gi_wp2
        exact ⟨hk1, hbk, ⟨⟨v, hv1, by rw [diff2_snoc, if_pos hx, List.append_nil, hlp]; exact hrow1⟩, ⟨hO1, hN1⟩, hB2⟩, hC1, hKD1⟩
      | false =>
        gi_wp2_with (gi_at_builtin; refine wpListIn_append_own _ rfl _ _ 32 rfl w.heap.size 36 i0 (.agg #[.int .i64 0, .bool false]) 2 16 Try.underlying32 hi hz0 hz1 hz2 rfl (by decide) _ _ _ rfl (hrow1.alloc _) ⟨W1.heap.size, 0, none⟩ 1 1 [.int .i64 ((x.val : Nat) : Int), .bool true] rfl rfl (cell_two_new _ _ _ _) (by simp [Value.oneCell']) (by unfold maxLen; omega) (by omega) (by have := hB2.size; simp; omega) ?_; intro v' w2 hown' hgrow _; obtain ⟨g', cap', rfl⟩ := ownsRow_succ hown'; obtain ⟨hv2, hv3, hr3, hk3, hb3⟩ := hv1.appended (by decide) hrow1 hB2.size (by omega) hown' hgrow; have hc1 := hv2.cell; have hf1 := hv2.frozen)
        have hO3 := held_app (v' := .slice (some ⟨g', 0, none⟩) (lp.length + 1) cap') hO1 hrow1 hgrow (show w.heap.size ≠ w.heap.size + 2 by omega)
        have hN3 := held_app (v' := .slice (some ⟨g', 0, none⟩) (lp.length + 1) cap') hN1 hrow1 hgrow (show w.heap.size + 1 ≠ w.heap.size + 2 by omega)
        have hC3 := held_app (v' := .slice (some ⟨g', 0, none⟩) (lp.length + 1) cap') hC1 hrow1 hgrow (show W0.heap.size ≠ w.heap.size + 2 by omega)
        have e1 : l1 ++ diff2 [a0, a1, a2, a3] [c0, c1, c2, c3] (pre ++ [x]) = lp ++ [(((x.val : Nat) : Int), true)] := by rw [diff2_snoc, if_neg (by rw [hx]; simp), ← List.append_assoc, hlp]
        have hr4 : (w2.setCell ⟨w.heap.size + 2, 0, none⟩ (.slice (some ⟨g', 0, none⟩) (lp.length + 1) cap')).ownsRow w.heap.size 36 2 (.slice (some ⟨g', 0, none⟩) (lp.length + 1) cap') (l1 ++ diff2 [a0, a1, a2, a3] [c0, c1, c2, c3] (pre ++ [x])).length (keyCs (l1 ++ diff2 [a0, a1, a2, a3] [c0, c1, c2, c3] (pre ++ [x]))) := by
          rw [e1, keyCs_app, List.length_append]; exact hr3
        exact ⟨hk1.trans (hk3.from _), boxKept_t hbk ⟨hb3.size, hC3.trans hC1.symm⟩, ⟨⟨_, hv3, hr4⟩, ⟨hO3, hN3⟩, hB2.trans hb3⟩, hC3, hk3.same D _ hKD1 rfl⟩
    case done =>
      rintro D2 ys W2 hD2 rfl ⟨⟨⟨v2, hv3, hrow3⟩, _, hB3⟩, _, hKD⟩ hK3
      have hc := hv3.cell
      gi_wp2
      have hne : D ≠ D2 := by omega
      refine ⟨by simp, .inl ⟨_, _, rfl, run_takeDeferred hK3, ?_⟩⟩
      refine ⟨by simp, .inl ⟨_, _, rfl, run_takeDeferred ((World.putObj_heap_other hne).trans hKD), ?_⟩⟩
      refine ⟨_, results_tmp rfl _ _ _, v2, rfl, ?_, ?_⟩
      · rw [hl1]; exact ownsRow_putObj (ownsRow_putObj hrow3 _ hK3 rfl) _ ((World.putObj_heap_other hne).trans hKD) rfl
      · have b1 := belowK_b (w := w) (Nat.le_refl _) W2 D2 _ (.deferred none) (by omega) hK3 rfl rfl
        exact (hB3.trans b1).trans (belowK_b (w := w) (Nat.le_refl _) _ D _ (.deferred none) (by omega) ((World.putObj_heap_other hne).trans hKD) rfl rfl)
end Go.Proofs.Ytnhdocmdjlijkaa
