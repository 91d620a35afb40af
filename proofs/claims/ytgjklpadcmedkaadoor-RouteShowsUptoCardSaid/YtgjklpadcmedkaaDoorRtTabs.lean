/- What the row says of the two error variables. -/
import Derived.Stop.LaidErr
import Derived.Test.YtgjklpadcmedkaaDoorRtRead
import Derived.Test.YtgjklpadcmedkaaDoorRows
namespace Go.Proofs.YtgjklpadcmedkaaDoor
open Go Go.RowKit Go.Shelf
set_option linter.unusedVariables false

theorem star_err : "*" ++ "errors.errorString" = "*errors.errorString" := by decide
theorem row_err (u : TypeId) (h : Tryd.prog.typeName? 3 u = some "*errors.errorString") : u = 95 :=
  typeName_ptr_named (nm := "errors.errorString") (by rw [star_err]; kernel_rfl) (by kernel_rfl) (by decide) u (by rw [star_err]; exact h)
theorem tab_row {W : World} (hL : laidMet Tryd.prog Rows.routeShowsUptoRow.laid W) : TabB W.heap.size W := by
  obtain ⟨a1, s1, hv1, -, -, -⟩ := laid_sentinel hL.tail.tail.tail.tail (g := 1) (ti := 38) (by kernel_rfl) (by kernel_rfl) Tryd.underlying38 row_err Tryd.underlying95 Tryd.underlying97 rfl rfl Tryd.underlying9 (by kernel_rfl) (by kernel_rfl)
  obtain ⟨a0, s0, hv0, -, -, -⟩ := laid_sentinel hL.tail.tail.tail.tail.tail (g := 0) (ti := 38) (by kernel_rfl) (by kernel_rfl) Tryd.underlying38 row_err Tryd.underlying95 Tryd.underlying97 rfl rfl Tryd.underlying9 (by kernel_rfl) (by kernel_rfl)
  have c1 := World.var?_cell (P := Tryd.prog) (n := "strconv.ErrRange") (g := 1) (by kernel_rfl) hv1 0
  have c0 := World.var?_cell (P := Tryd.prog) (n := "strconv.ErrSyntax") (g := 0) (by kernel_rfl) hv0 0
  have c1' : W.cell? ⟨1, 0, none⟩ = some (.iface 95 (.pointer (some a1))) := by simpa using c1
  have c0' : W.cell? ⟨0, 0, none⟩ = some (.iface 95 (.pointer (some a0))) := by simpa using c0
  have hlt : ∀ {g c : Nat} {v : Value}, W.cell? ⟨g, c, none⟩ = some v → g < W.heap.size := by
    intro g c v h
    rcases Nat.lt_or_ge g W.heap.size with h1 | h1
    · exact h1
    · simp [World.cell?, Array.getElem?_eq_none h1] at h
  exact fun _ => ⟨hlt c0', hlt c1', ⟨_, _, c0'⟩, _, _, c1'⟩
end Go.Proofs.YtgjklpadcmedkaaDoor
