/- slices.SortFunc at spans, by their places: the contract, as the machine takes it. -/
import Derived.Test.YtfcilapoefaanaaSortLay
import Derived.Test.YtfcilapoefaanaaSortK
import Derived.Test.YtfcilapoefaanaaInsSpanC
import Derived.Test.YtfcilapoefaanaaChecked
import Derived.WalkKit
namespace Go.Proofs.Ytfcilapoefaanaa
open Go Go.Shelf Go.RowKit Go.Lib Go.Sort
set_option linter.unusedVariables false

set_option maxHeartbeats 1000000 in
theorem span_cmp (a b c d : Int) (W : World) : Calls Try.prog 24 #[.agg #[.int .i64 a, .int .i64 b], .agg #[.int .i64 c, .int .i64 d]] W fun e w' => e = .returned (.int .i64 (wrap64 (a - c))) ∧ ∃ q os', w' = grow (W.drewN q) os' := by
  go_enter Try.func24, Try.ntmps24
  go_wp2
  go_ret
  exact ⟨rfl, 0, _, by rw [alloc_eq_grow, alloc_eq_grow, grow_grow]; rfl⟩
/-- a span whose place is that of a unit -/
def spanOk (x : Int × Int) : Prop := 0 ≤ x.1 ∧ x.1 ≤ 65536
def sortV (l : List (Int × Int)) : List (Int × Int) := l.mergeSort fun x y => decide (x.1 ≤ y.1)
/-- all places are right, and no two are the same -/
def sortC (l : List (Int × Int)) : Bool := (!l.isEmpty && decide (l.length ≤ 1000000)) && (l.all (fun x => decide (0 ≤ x.1) && decide (x.1 ≤ 65536)) && decide ((sortV l).Pairwise fun x y => x.1 < y.1))
theorem sort_span (l : List (Int × Int)) (h : sortC l = true) : (sortV l).length = l.length ∧ FxC Try.prog 23 47 spanSh l [.fn 24] (sortV l) none := by
  have hp : (sortV l).Perm l := List.mergeSort_perm _ _
  refine ⟨hp.length_eq, ?_⟩
  simp only [sortC, Bool.and_eq_true, Bool.not_eq_true', List.all_eq_true, decide_eq_true_eq] at h
  obtain ⟨⟨h0, hlen⟩, hok, hs⟩ := h
  have hok' : ∀ x ∈ l, spanOk x := hok
  have eg : ∀ args w, (callFunc 24 args).run Try.prog w = .ok (.enter 24 args) w := enters_of Try.func24 (by kernel_rfl) rfl
  refine sort_fx Try.sortSpan spanSh 2 rfl Try.isAgg47 Try.sizeOf47 24 eg spanOk (fun x y => x.1 - y.1) (fun x _ => by omega) (fun x y z _ _ _ h1 h2 => by omega) (fun x y z _ _ _ h1 h2 => by omega) ?_ 47 l (sortV l) (by intro e; subst e; cases h0) hok' hp (hs.imp fun h => by omega) hlen
  intro W fz x y cx cy hx hy h1 h2
  obtain ⟨c1, c2, rfl, e1, e2⟩ := h1
  obtain ⟨d1, d2, rfl, e3, e4⟩ := h2
  obtain rfl : c1 = [.int .i64 x.1] := e1
  obtain rfl : c2 = [.int .i64 x.2] := e2
  obtain rfl : d1 = [.int .i64 y.1] := e3
  obtain rfl : d2 = [.int .i64 y.2] := e4
  refine (span_cmp x.1 x.2 y.1 y.2 W).mono ?_
  rintro e w' ⟨rfl, h⟩
  refine ⟨?_, h⟩
  unfold spanOk at hx hy
  have hw : wrap64 (x.1 - y.1) = x.1 - y.1 := by unfold wrap64; omega
  rw [hw]
end Go.Proofs.Ytfcilapoefaanaa
