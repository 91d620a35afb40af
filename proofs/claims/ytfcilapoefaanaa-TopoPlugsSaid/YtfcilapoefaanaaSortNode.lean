/- slices.SortFunc at nodes, by their paths: the contract, as the machine takes it. -/
import Derived.Test.YtfcilapoefaanaaSortLay
import Derived.Test.YtfcilapoefaanaaSortK
import Derived.Test.YtfcilapoefaanaaInsNodeC
import Derived.Test.YtfcilapoefaanaaBefore
namespace Go.Proofs.Ytfcilapoefaanaa
open Go Go.Shelf Go.RowKit Go.Lib Go.Sort
set_option linter.unusedVariables false

abbrev NodeT := List Int × (Int × (Int × Int))
set_option maxHeartbeats 2000000 in
set_option maxRecDepth 100000 in
theorem node_cmp (p q : List Int) (va vb : Value) (a1 a2 a3 b1 b2 b3 : Int) (W : World) (fz : Nat → Prop) (ha : ShR W fz (.sl (.int .i64)) p [va]) (hb : ShR W fz (.sl (.int .i64)) q [vb]) :
    Calls Try.prog 39 #[.agg #[va, .int .i64 a1, .int .i64 a2, .int .i64 a3], .agg #[vb, .int .i64 b1, .int .i64 b2, .int .i64 b3]] W fun e w' => e = .returned (.int .i64 (if beforeL p q then -1 else 1)) ∧ ∃ n os', w' = grow (W.drewN n) os' := by
  obtain ⟨aa, ca, e1, l1, m1, x1⟩ := ha
  obtain ⟨bb, cb, e2, l2, m2, x2⟩ := hb
  obtain rfl : va = .slice aa p.length ca := by simpa using e1
  obtain rfl : vb = .slice bb q.length cb := by simpa using e2
  have rd : ∀ (l : List Int) (aa : Option Addr), (0 < l.length → ∃ b off cells, aa = some ⟨b, off, none⟩ ∧ fz b ∧ b < W.heap.size ∧ CatR (ShR W fz (.int .i64)) l cells ∧ ∀ i u, cells[i]? = some u → W.cell? ⟨b, off + i, none⟩ = some u) →
      ∀ os, RdA (grow W os) aa l := by
    intro l aa hx os hp
    obtain ⟨b, off, cells, rfl, hf, hlt, hc, hcell⟩ := hx hp
    refine ⟨b, off, rfl, fun j u hj => ?_⟩
    rw [cell?_grow W os _ hlt]
    exact hcell j _ (by rw [CatR.ints hc, List.getElem?_map, hj]; rfl)
  have HC : Hid (∀ os, Calls Try.prog 40 #[.slice aa p.length ca, .slice bb q.length cb] (grow W os) fun e w' => e = .returned (.bool (beforeL p q)) ∧ ∃ n, w' = (grow W os).drewN n) :=
    Lib.hid fun os => before_any q p aa bb p.length q.length ca cb (grow W os) rfl rfl l1 l2 (by unfold maxLen at m1; omega) (by unfold maxLen at m2; omega) (rd p aa x1 os) (rd q bb x2 os)
  have HG : Hid (∀ o1 o2, (W.alloc o1).alloc o2 = grow W #[o1, o2]) := Lib.hid fun o1 o2 => by rw [alloc_eq_grow, alloc_eq_grow, grow_grow]; rfl
  clear x1 x2 rd e1 e2 l1 l2 m1 m2
  generalize p.length = np at *
  generalize q.length = nq at *
  cases hr : beforeL p q with
  | true =>
    rw [hr] at HC
    show Calls _ _ _ _ fun e w' => e = .returned (.int .i64 (-1)) ∧ _
    clear hr
    go_enter Try.func39, Try.ntmps39
    go_wp2_with (go_at_call 40; rw [HG.out]; refine (HC.out _).mono ?_; rintro e w' ⟨rfl, n, rfl⟩)
    go_ret
    exact ⟨rfl, n, _, rfl⟩
  | false =>
    rw [hr] at HC
    show Calls _ _ _ _ fun e w' => e = .returned (.int .i64 1) ∧ _
    clear hr
    go_enter Try.func39, Try.ntmps39
    go_wp2_with (go_at_call 40; rw [HG.out]; refine (HC.out _).mono ?_; rintro e w' ⟨rfl, n, rfl⟩)
    go_ret
    exact ⟨rfl, n, _, rfl⟩
theorem before_irrefl : ∀ a : List Int, beforeL a a = false
  | [] => rfl
  | x :: a => by simp [beforeL, before_irrefl a]
theorem before_trans : ∀ a b c : List Int, beforeL a b = true → beforeL b c = true → beforeL a c = true
  | _, [], _, h, _ => by simp [beforeL] at h
  | _, _ :: _, [], _, h => by simp [beforeL] at h
  | [], _ :: _, _ :: _, _, _ => rfl
  | x :: a, y :: b, z :: c, h1, h2 => by
    simp only [beforeL, Bool.or_eq_true, Bool.and_eq_true, decide_eq_true_eq, beq_iff_eq] at h1 h2 ⊢
    rcases h1 with h1 | ⟨rfl, h1⟩ <;> rcases h2 with h2 | ⟨rfl, h2⟩
    · exact .inl (by omega)
    · exact .inl h1
    · exact .inl h2
    · exact .inr ⟨rfl, before_trans a b c h1 h2⟩
theorem before_tot : ∀ a b : List Int, beforeL a b = false → beforeL b a = false → a = b
  | [], [], _, _ => rfl
  | [], _ :: _, h, _ => by simp [beforeL] at h
  | _ :: _, [], _, h => by simp [beforeL] at h
  | x :: a, y :: b, h1, h2 => by
    simp only [beforeL, Bool.or_eq_false_iff, Bool.and_eq_false_iff, decide_eq_false_iff_not, beq_eq_false_iff_ne] at h1 h2
    obtain rfl : x = y := by omega
    rw [before_tot a b (h1.2.resolve_left (by simp)) (h2.2.resolve_left (by simp))]
theorem before_ntrans (a b c : List Int) (h1 : beforeL a b = false) (h2 : beforeL b c = false) : beforeL a c = false := by
  cases h : beforeL a c with
  | false => rfl
  | true =>
    exfalso
    cases h3 : beforeL b a with
    | true => rw [before_trans b a c h3 h] at h2; cases h2
    | false => rw [before_tot a b h1 h3, h2] at h; cases h
def sortNV (l : List NodeT) : List NodeT := l.mergeSort fun x y => !beforeL y.1 x.1
/-- no two paths are the same -/
def sortNC (l : List NodeT) : Bool := (!l.isEmpty && decide (l.length ≤ 1000000)) && decide ((sortNV l).Pairwise fun x y => beforeL x.1 y.1 = true)
theorem sort_node (l : List NodeT) (h : sortNC l = true) : (sortNV l).length = l.length ∧ FxC Try.prog 38 33 nodeSh l [.fn 39] (sortNV l) none := by
  have hp : (sortNV l).Perm l := List.mergeSort_perm _ _
  refine ⟨hp.length_eq, ?_⟩
  simp only [sortNC, Bool.and_eq_true, Bool.not_eq_true', decide_eq_true_eq] at h
  obtain ⟨⟨h0, hlen⟩, hs⟩ := h
  have eg : ∀ args w, (callFunc 39 args).run Try.prog w = .ok (.enter 39 args) w := enters_of Try.func39 (by kernel_rfl) rfl
  have lt : ∀ x y : NodeT, ((if beforeL x.1 y.1 then (-1 : Int) else 1) < 0) ↔ beforeL x.1 y.1 = true := fun x y => by split <;> simp_all
  refine sort_fx Try.sortNode nodeSh 4 rfl Try.isAgg33 Try.sizeOf33 39 eg (fun _ => True) (fun x y : NodeT => if beforeL x.1 y.1 then -1 else 1) (fun x _ => ?_) (fun x y z _ _ _ h1 h2 => ?_) (fun x y z _ _ _ h1 h2 => ?_) ?_ 33 l (sortNV l) (by intro e; subst e; cases h0) (fun _ _ => trivial) hp (hs.imp fun h => (lt _ _).2 h) hlen
  · rw [lt, before_irrefl]; simp
  · rw [lt] at *; exact before_trans _ _ _ h1 h2
  · rw [lt, Bool.not_eq_true] at *; exact before_ntrans _ _ _ h1 h2
  intro W fz x y cx cy _ _ h1 h2
  obtain ⟨c1, c2, rfl, e1, c3, c4, rfl, e2, c5, c6, rfl, e3, e4⟩ := h1
  obtain ⟨d1, d2, rfl, f1, d3, d4, rfl, f2, d5, d6, rfl, f3, f4⟩ := h2
  obtain ⟨va, rfl⟩ := List.length_eq_one_iff.1 (ShR.length (.sl (.int .i64)) _ _ e1)
  obtain ⟨vb, rfl⟩ := List.length_eq_one_iff.1 (ShR.length (.sl (.int .i64)) _ _ f1)
  obtain rfl : c3 = [.int .i64 x.2.1] := e2
  obtain rfl : c5 = [.int .i64 x.2.2.1] := e3
  obtain rfl : c6 = [.int .i64 x.2.2.2] := e4
  obtain rfl : d3 = [.int .i64 y.2.1] := f2
  obtain rfl : d5 = [.int .i64 y.2.2.1] := f3
  obtain rfl : d6 = [.int .i64 y.2.2.2] := f4
  exact node_cmp x.1 y.1 va vb _ _ _ _ _ _ W fz e1 f1
end Go.Proofs.Ytfcilapoefaanaa
