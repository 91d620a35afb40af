/- The law TopoChecks, in plain Lean. -/
import Derived.Test.YthmogpkngcphmaaSTree
namespace Go.Proofs.Ythmogpkngcphmaa
open Go Go.RowKit
set_option linter.unusedVariables false

theorem copyN (n : Nat) (p : Nd) (h : p.1.length ≤ 17592186044416) : F14 n p.1 p.2.1 p.2.2.1 p.2.2.2 = some (p.2.1, p.2.2.1, p.2.2.2, p.1) := by
  unfold F14 F31
  rw [decide_eq_true (by simpa using h)]
  rfl
theorem eqPaths (n : Nat) (p : Nd) (h : p.1.length ≤ 4611686018427387904) (hn : p.1.length + 1 < n) : F9 n p.1 p.2.1 p.2.2.1 p.2.2.2 p.1 p.2.1 p.2.2.1 p.2.2.2 = some true := by
  unfold F9
  rw [rf25 n p.1 p.1 h hn, decide_eq_true rfl]
  simp only [Option.bind_some, cond_true, beq_self_eq_true]
theorem checksN (n : Nat) (hn : 100 < n) (tree : List Nd) (path : List Int) (hl : tree.length + 1 < n) (hp : ∀ j, j < tree.length → (tree.getD j dN).1.length ≤ 17592186044416 ∧ (tree.getD j dN).1.length + 1 < n) (hl2 : tree.length ≤ 4611686018427387904) : F3 n tree path = some true := by
  obtain ⟨r, e1, e2, _⟩ := c1 n tree hn
  obtain ⟨i, f1, f2, f3⟩ := findE n tree path hl hl2 (fun j hj => ⟨by have := (hp j hj).1; omega, (hp j hj).2⟩)
  unfold F3 F5
  rw [e1, e2, f1, f2]
  rcases f3 with rfl | ⟨g1, g2, g3⟩
  · have : F9 n [] 0 0 0 [] 0 0 0 = some true := eqPaths n dN (by simp) (by simp; omega)
    simp only [Option.bind_some, F6_j5]
    simp only [show decide ((-1 : Int) < 0) = true from rfl, cond_true, Option.bind_some, this, beq_self_eq_true]
  · simp only [Option.bind_some, F6_j5]
    have hj := hp i.toNat (by omega)
    rw [decide_eq_false (show ¬ i < 0 by omega), inb_true g1 g2, copyN n (tree.getD i.toNat dN) hj.1]
    simp only [cond_false, cond_true, Option.bind_some]
    rw [eqPaths n (tree.getD i.toNat dN) (by omega) hj.2]
    simp only [cond_true, Option.bind_some, beq_self_eq_true]
theorem topoChecks_says (a0 : Sh.T (.sl (.st (.pair (.sl (.int .i64)) (.pair (.int .i64) (.pair (.int .i64) (.int .i64))))))) (g0 : Sh.good (.sl (.st (.pair (.sl (.int .i64)) (.pair (.int .i64) (.pair (.int .i64) (.int .i64)))))) a0) (v0 : Sh.rch (.sl (.st (.pair (.sl (.int .i64)) (.pair (.int .i64) (.pair (.int .i64) (.int .i64)))))) a0) (a1 : Sh.T (.sl (.int .i64))) (g1 : Sh.good (.sl (.int .i64)) a1) (v1 : Sh.rch (.sl (.int .i64)) a1) :
    ∃ n, F3 n a0 a1 = some true := by
  have h1 : a0.length * 48 ≤ 140737488351232 := v0.1
  have h2 : ∀ j, j < a0.length → (a0.getD j dN).1.length * 8 ≤ 140737488351232 := fun j hj => by
    rw [List.getD_eq_getElem?_getD, List.getElem?_eq_getElem hj]
    exact (v0.2 _ (List.getElem_mem hj)).1.1
  exact ⟨140737488355328, checksN 140737488355328 (by omega) a0 a1 (by omega) (fun j hj => by have := h2 j hj; omega) (by omega)⟩
end Go.Proofs.Ythmogpkngcphmaa
