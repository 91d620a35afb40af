/- An exact machine, part 17: memories as functions, for regions in any order. -/
import Derived.Test.YtpmgggfjmkpleaaGreatDoorE16
namespace Go.Proofs.YtpmgggfjmkpleaaGreatDoor.E
open Go Go.RowKit
set_option linter.unusedVariables false

structure MemF (B : Nat) (w : World) (G : Gh) (g : Nat → Bk) : Prop where
  blk : ∀ i, BkR w G i (g i)
  apart : ∀ i j, i ≠ j → g i ≠ .dead → g j ≠ .dead → G.ρ i ≠ G.ρ j
  own : ∀ i, g i ≠ .dead → B ≤ G.ρ i ∧ G.ρ i < w.heap.size ∧ G.al i
  base : B ≤ w.heap.size
theorem MemR.toF {B : Nat} {w : World} {G : Gh} {n : Nat} {m : M} (h : MemR B w G n m) : MemF B w G (M.get m) := ⟨h.blk, h.apart, h.own, h.base⟩
theorem MemF.weaken {B : Nat} {w : World} {G : Gh} {g : Nat → Bk} (h : MemF B w G g) (n : Nat) {m : M} (hm : ∀ b, M.get m b = .dead ∨ M.get m b = g b) : MemR B w G n m := by
  have hl : ∀ b, live m b → M.get m b = g b ∧ g b ≠ .dead := fun b hb => by
    rcases hm b with h1 | h1
    · exact absurd h1 hb
    · exact ⟨h1, by rw [← h1]; exact hb⟩
  refine ⟨fun i => ?_, fun i j hij hi hj => h.apart i j hij (hl i hi).2 (hl j hj).2, fun i hi => h.own i (hl i hi).2, h.base⟩
  rcases hm i with h1 | h1
  · rw [h1]; trivial
  · rw [h1]; exact h.blk i
structure PostF (B n : Nat) (g0 : Nat → Bk) (w0 : World) (G0 : Gh) (nf : Nat) (g : Nat → Bk) (w : World) (G : Gh) (lo : Nat) : Prop where
  ext : Ext G0 G
  memf : MemF B w G g
  rest : Rest w0 w
  dead : ∀ i, ¬ (n ≤ i ∧ i < nf) → g i ≠ .dead → g0 i ≠ .dead
  fresh : ∀ i, n ≤ i → i < nf → g i ≠ .dead → w0.heap.size ≤ G.ρ i ∨ ∃ b, lo ≤ b ∧ g0 b ≠ .dead ∧ G.ρ i = G0.ρ b
  frame : ∀ x, x < w0.heap.size → (∀ i, lo ≤ i → g0 i ≠ .dead → G0.ρ i ≠ x) → w.heap[x]? = w0.heap[x]?
  new : ∀ i, G.al i → G0.al i ∨ (n ≤ i ∧ i < nf)
section
variable {B n nf lo : Nat} {g0 g : Nat → Bk} {w0 w : World} {G0 G : Gh}
theorem PostF.refl (h : MemF B w0 G0 g0) (hf : Free G0 n nf) : PostF B n g0 w0 G0 nf g0 w0 G0 lo :=
  ⟨Ext.refl G0, h, Rest.refl w0, fun _ _ h => h, fun i h1 h2 h3 => absurd (h.own i h3).2.2 (hf i h1 h2), fun _ _ _ => rfl, fun _ h => .inl h⟩
/-- what lay there before -/
theorem PostF.back (h0 : MemF B w0 G0 g0) (h : PostF B n g0 w0 G0 nf g w G lo) (hlo : lo ≤ n) {i : Nat} (hi : lo ≤ i) (hl : g i ≠ .dead) : w0.heap.size ≤ G.ρ i ∨ ∃ b, lo ≤ b ∧ g0 b ≠ .dead ∧ G.ρ i = G0.ρ b := by
  by_cases h1 : n ≤ i ∧ i < nf
  · exact h.fresh i h1.1 h1.2 hl
  · have h2 := h.dead i h1 hl
    exact .inr ⟨i, hi, h2, h.ext.ρ i (h0.own i h2).2.2⟩
theorem PostF.chain (h0 : MemF B w0 G0 g0) (h : PostF B n g0 w0 G0 nf g w G lo) {np n1 : Nat} {m m1 : M} {w1 : World} {G1 : Gh} (hm : ∀ b, M.get m b = .dead ∨ M.get m b = g b) (k : Post B np m w G n1 m1 w1 G1 lo) (hlo : lo ≤ n) (hn : n ≤ np) (hn1 : n1 ≤ nf) (hx : ∀ b, n1 ≤ b → b < nf → M.get m b = .dead) :
    PostF B n g0 w0 G0 nf (fun b => if n1 ≤ b ∧ b < nf then g b else M.get m1 b) w1 G1 lo := by
  have hl : ∀ b, live m b → g b ≠ .dead ∧ ¬ (n1 ≤ b ∧ b < nf) := fun b hb => by
    refine ⟨?_, fun e => hb (hx b e.1 e.2)⟩
    rcases hm b with h1 | h1
    · exact absurd h1 hb
    · rw [← h1]; exact hb
  have hlen := k.len
  have hold : ∀ b, g b ≠ .dead → G1.ρ b = G.ρ b ∧ G1.κ b = G.κ b ∧ G1.al b := fun b hb => by
    have := (h.memf.own b hb).2.2
    exact ⟨k.ext.ρ b this, k.ext.κ b this, k.ext.al b this⟩
  -- a block of the machine's after the step, by what it was
  have later : ∀ j, live m1 j → (w.heap.size ≤ G1.ρ j) ∨ ∃ b, live m b ∧ G1.ρ j = G.ρ b ∧ (b = j ∨ lo ≤ b) := fun j hj => by
    by_cases h1 : np ≤ j ∧ j < n1
    · rcases k.fresh j h1.1 h1.2 hj with h2 | ⟨b, h2, h3, h4⟩
      · exact .inl h2
      · exact .inr ⟨b, h3, h4, .inr h2⟩
    · have h2 := k.dead j h1 hj
      exact .inr ⟨j, h2, (hold j (hl j h2).1).1, .inl rfl⟩
  have cross : ∀ i j, (n1 ≤ i ∧ i < nf) → g i ≠ .dead → live m1 j → G1.ρ i ≠ G1.ρ j := fun i j hi hgi hj e => by
    rw [(hold i hgi).1] at e
    rcases later j hj with h1 | ⟨b, h1, h2, _⟩
    · have := (h.memf.own i hgi).2.1; omega
    · refine h.memf.apart i b (fun e' => ?_) hgi (hl b h1).1 (by rw [e, h2])
      subst e'; exact (hl i h1).2 hi
  refine ⟨h.ext.trans k.ext, ⟨fun i => ?_, fun i j hij hi hj => ?_, fun i hi => ?_, k.memr.base⟩, h.rest.trans k.rest, fun i hi hgi => ?_, fun i hi hi' hgi => ?_, fun x hxx hno => ?_, fun i hi => ?_⟩
  · by_cases e : n1 ≤ i ∧ i < nf
    · simp only [if_pos e]
      by_cases hd : g i = .dead
      · rw [hd]; trivial
      · refine (h.memf.blk i).keep k.ext (hold i hd).1 (hold i hd).2.1 (k.frame _ (h.memf.own i hd).2.1 fun j hj hl' e' => ?_)
        exact h.memf.apart j i (fun e2 => by subst e2; exact (hl j hl').2 e) (hl j hl').1 hd e'
    · simp only [if_neg e]
      exact k.memr.blk i
  · by_cases e1 : n1 ≤ i ∧ i < nf <;> by_cases e2 : n1 ≤ j ∧ j < nf
    · simp only [if_pos e1] at hi
      simp only [if_pos e2] at hj
      rw [(hold i hi).1, (hold j hj).1]
      exact h.memf.apart i j hij hi hj
    · simp only [if_pos e1] at hi
      simp only [if_neg e2] at hj
      exact cross i j e1 hi hj
    · simp only [if_neg e1] at hi
      simp only [if_pos e2] at hj
      exact (cross j i e2 hj hi).symm
    · simp only [if_neg e1] at hi
      simp only [if_neg e2] at hj
      exact k.memr.apart i j hij hi hj
  · by_cases e : n1 ≤ i ∧ i < nf
    · simp only [if_pos e] at hi
      rw [(hold i hi).1]
      have := h.memf.own i hi
      exact ⟨this.1, Nat.lt_of_lt_of_le this.2.1 k.rest.size, (hold i hi).2.2⟩
    · simp only [if_neg e] at hi
      exact k.memr.own i hi
  · have e : ¬ (n1 ≤ i ∧ i < nf) := fun e => hi (by omega)
    simp only [if_neg e] at hgi
    exact h.dead i hi (hl i (k.dead i (by omega) hgi)).1
  · by_cases e : n1 ≤ i ∧ i < nf
    · simp only [if_pos e] at hgi
      rw [(hold i hgi).1]
      exact h.fresh i hi hi' hgi
    · simp only [if_neg e] at hgi
      rcases later i hgi with h1 | ⟨b, h1, h2, h3⟩
      · have := h.rest.size; exact .inl (by omega)
      · rw [h2]
        refine h.back h0 hlo ?_ (hl b h1).1
        rcases h3 with rfl | h3
        · omega
        · exact h3
  · rw [k.frame x (Nat.lt_of_lt_of_le hxx h.rest.size) fun i hi hl' e => ?_]
    · exact h.frame x hxx hno
    · rcases h.back h0 hlo hi (hl i hl').1 with h1 | ⟨b, h1, h2, h3⟩
      · omega
      · exact hno b h1 h2 (by rw [← h3]; exact e)
  · rcases k.new i hi with h1 | h1
    · exact h.new i h1
    · exact .inr (by omega)
theorem PostF.alloc (h : PostF B n g0 w0 G0 nf g w G lo) {e : Nat} (he : n ≤ e ∧ e < nf) (hal : ¬ G.al e) {ob : Obj} {x : Bk} (hb : BkR (w.alloc ob) (G.put e w.heap.size 0) e x) :
    PostF B n g0 w0 G0 nf (fun b => if b = e then x else g b) (w.alloc ob) (G.put e w.heap.size 0) lo := by
  have hext := Gh.put_ext (i := e) w.heap.size 0 hal
  have hd : g e = .dead := Classical.byContradiction fun hd => hal (h.memf.own e hd).2.2
  have hold : ∀ i, i ≠ e → (G.put e w.heap.size 0).ρ i = G.ρ i ∧ (G.put e w.heap.size 0).κ i = G.κ i := fun i hi => ⟨if_neg hi, if_neg hi⟩
  have hbel : Below w.heap.size w (w.alloc ob) := (Below.refl _ w).alloc (Nat.le_refl _) ob
  have hsz : (w.alloc ob).heap.size = w.heap.size + 1 := by simp
  refine ⟨h.ext.trans hext, ⟨fun i => ?_, fun i j hij hi hj => ?_, fun i hi => ?_, by have := h.memf.base; omega⟩, h.rest.trans (Rest.of hbel), fun i hi hgi => ?_, fun i hi hi' hgi => ?_, fun y hy hno => ?_, fun i hi => ?_⟩
  · by_cases e1 : i = e
    · subst e1; simp only [if_true]; exact hb
    · simp only [if_neg e1]
      by_cases hd' : g i = .dead
      · rw [hd']; trivial
      · exact (h.memf.blk i).keep hext (hold i e1).1 (hold i e1).2 (hbel.block _ (h.memf.own i hd').2.1)
  · by_cases e1 : i = e <;> by_cases e2 : j = e
    · omega
    · subst e1
      simp only [if_neg e2] at hj
      rw [Gh.put_ρ, (hold j e2).1]
      have := (h.memf.own j hj).2.1; omega
    · subst e2
      simp only [if_neg e1] at hi
      rw [Gh.put_ρ, (hold i e1).1]
      have := (h.memf.own i hi).2.1; omega
    · simp only [if_neg e1] at hi
      simp only [if_neg e2] at hj
      rw [(hold i e1).1, (hold j e2).1]
      exact h.memf.apart i j hij hi hj
  · by_cases e1 : i = e
    · subst e1
      rw [Gh.put_ρ]
      exact ⟨h.memf.base, by omega, .inl rfl⟩
    · simp only [if_neg e1] at hi
      rw [(hold i e1).1]
      have := h.memf.own i hi
      exact ⟨this.1, by omega, .inr this.2.2⟩
  · have e1 : i ≠ e := fun e1 => hi (by omega)
    simp only [if_neg e1] at hgi
    exact h.dead i hi hgi
  · by_cases e1 : i = e
    · subst e1; rw [Gh.put_ρ]; exact .inl h.rest.size
    · simp only [if_neg e1] at hgi
      rw [(hold i e1).1]
      exact h.fresh i hi hi' hgi
  · rw [hbel.block y (Nat.lt_of_lt_of_le hy h.rest.size)]
    exact h.frame y hy hno
  · rcases hi with hi | hi
    · exact .inr (by omega)
    · exact h.new i hi
theorem PostF.post {m0 mf : M} (h : PostF B n (M.get m0) w0 G0 nf g w G lo) (hle : n ≤ nf) (hm : ∀ b, M.get mf b = .dead ∨ M.get mf b = g b) : Post B n m0 w0 G0 nf mf w G lo := by
  have hl : ∀ b, live mf b → g b ≠ .dead := fun b hb => by
    rcases hm b with h1 | h1
    · exact absurd h1 hb
    · rw [← h1]; exact hb
  exact ⟨h.ext, h.memf.weaken nf hm, h.rest, hle, fun i hi hv => h.dead i hi (hl i hv), fun i h1 h2 hv => h.fresh i h1 h2 (hl i hv), h.frame, h.new⟩
end
end Go.Proofs.YtpmgggfjmkpleaaGreatDoor.E
