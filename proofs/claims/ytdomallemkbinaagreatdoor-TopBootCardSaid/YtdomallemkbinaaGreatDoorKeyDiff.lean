/- keys.Diff: what leads from one set to another. -/
import Derived.Test.YtdomallemkbinaaGreatDoorKeyIter
namespace Go.Proofs.YtdomallemkbinaaGreatDoor
open Go Go.RowKit Go.Shelf
set_option linter.unusedVariables false
attribute [local go_sem] Oper.semAt_some

def keyCs (l : List (Int × Bool)) : List Value := l.flatMap fun p => [.int .i64 p.1, .bool p.2]
theorem cellsObj_kept {A B : World} {row : Option Nat} {b : Nat} {cs : Array Value} {t : TypeId} {fr : Nat × Nat} (h : A.heap[b]? = some (.cells cs t fr)) (hg : A.grownBy B row) (hr : ∀ r, row = some r → ∃ o : Obj, A.heap[r]? = some o ∧ o.isCells = false) : B.heap[b]? = some (.cells cs t fr) := by
  refine (hg.block b (Array.getElem?_eq_some_iff.1 h).1 fun e => ?_).trans h
  obtain ⟨o, ho, hc⟩ := hr b e.symm
  rw [h] at ho; cases ho; cases hc
/-- four cells in a box -/
def Held4 (W : World) (B : Nat) (b0 b1 b2 b3 : Int) : Prop := W.heap[B]? = some (.cells #[.int .u64 b0, .int .u64 b1, .int .u64 b2, .int .u64 b3] 25 (0, 0))
theorem Held4.cells {W : World} {B : Nat} {b0 b1 b2 b3 : Int} (h : Held4 W B b0 b1 b2 b3) : W.cell? ⟨B, 0, none⟩ = some (.int .u64 b0) ∧ W.cell? ⟨B, 1, none⟩ = some (.int .u64 b1) ∧ W.cell? ⟨B, 2, none⟩ = some (.int .u64 b2) ∧ W.cell? ⟨B, 3, none⟩ = some (.int .u64 b3) := by
  unfold Held4 at h
  simp [World.cell?, h]
theorem codesB_len (b : BitsL) : (codesB b).length ≤ 256 := by
  unfold codesB
  exact Nat.le_trans (List.length_filter_le _ _) (by simp)
/-- what the loops keep: the list so far, the two sets -/
def DI (w : World) (a0 a1 a2 a3 c0 c1 c2 c3 : Int) (l : List (Int × Bool)) (W : World) : Prop :=
  (∃ v, Boxed W (w.heap.size + 2) 57 v ∧ W.ownsRow w.heap.size 254 2 v l.length (keyCs l)) ∧ (Held4 W w.heap.size a0 a1 a2 a3 ∧ Held4 W (w.heap.size + 1) c0 c1 c2 c3) ∧ Below w.heap.size w W
theorem DI.own {w : World} {a0 a1 a2 a3 c0 c1 c2 c3 : Int} {B : Nat} (hB : w.heap.size ≤ B) (f : List C256 → List (Int × Bool)) : OwnFrom B (fun pre W => DI w a0 a1 a2 a3 c0 c1 c2 c3 (f pre) W) := by
  rintro s X Y row ⟨⟨v, hv, hr⟩, ⟨h1, h2⟩, hb⟩ hg hrow
  have hrow' : ∀ r, row = some r → ∃ o : Obj, X.heap[r]? = some o ∧ o.isCells = false := fun r e => (hrow r e).2
  refine ⟨⟨v, cellsObj_kept hv hg hrow', hr.kept hg ?_⟩, ⟨cellsObj_kept h1 hg hrow', cellsObj_kept h2 hg hrow'⟩, hb.grown hg hb.size fun j e => Nat.le_trans hB (hrow j e).1⟩
  rcases hr.2 with ⟨rfl, _⟩ | ⟨g, cap, cur, rfl, _, hgb, _⟩
  · exact .inl rfl
  · refine .inr fun e' => ?_
    obtain ⟨o, ho, hc⟩ := hrow' g (by simpa [Value.ownBlock] using e'.symm)
    rw [hgb] at ho; cases ho; cases hc
end Go.Proofs.YtdomallemkbinaaGreatDoor
