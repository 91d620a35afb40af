/- slices.Delete of one span: the contract, as the machine takes it. -/
import Derived.Test.YtnhdocmdjlijkaaDelSpan
import Derived.Test.YtnhdocmdjlijkaaAm30
namespace Go.Proofs.Ytnhdocmdjlijkaa
open Go Go.RowKit
set_option linter.unusedVariables false

abbrev spanSh : Sh := .st (.pair (.int .i64) (.int .i64))
def spCs (l : List (Int × Int)) : List Value := l.flatMap fun p => [.int .i64 p.1, .int .i64 p.2]
theorem spCs_len (l : List (Int × Int)) : (spCs l).length = l.length * 2 := by
  induction l with
  | nil => rfl
  | cons a l ih => simp only [spCs, List.flatMap_cons, List.length_append, List.length_cons, List.length_nil] at ih ⊢; omega
theorem spCs_app (a b : List (Int × Int)) : spCs (a ++ b) = spCs a ++ spCs b := by simp [spCs]
theorem spCat {w : World} {fz : Nat → Prop} : ∀ l : List (Int × Int), CatR (ShR w fz spanSh) l (spCs l)
  | [] => rfl
  | (a, b) :: l => ⟨[.int .i64 a, .int .i64 b], spCs l, rfl, ⟨[_], [_], rfl, rfl, rfl⟩, spCat l⟩
theorem spCat_eq {w : World} {fz : Nat → Prop} : ∀ (l : List (Int × Int)) (cs : List Value), CatR (ShR w fz spanSh) l cs → cs = spCs l
  | [], cs, h => h
  | (a, b) :: l, cs, ⟨c1, c2, e, ⟨d1, d2, e2, h1, h2⟩, h3⟩ => by
    have e3 : d1 = [.int .i64 a] := h1
    have e4 : d2 = [.int .i64 b] := h2
    rw [e, e2, e3, e4, spCat_eq l c2 h3]; rfl
theorem spCs_one (l : List (Int × Int)) : ∀ v ∈ spCs l, v.oneCell' = true := by
  intro v hv
  obtain ⟨p, _, h⟩ := List.mem_flatMap.1 hv
  rcases List.mem_cons.1 h with rfl | h
  · rfl
  · obtain rfl := List.mem_singleton.1 h; rfl
theorem setCells_heap (g : Nat) (t : TypeId) (fr : Nat × Nat) : ∀ (vs b a c : List Value) (w : World), b.length = vs.length → w.heap[g]? = some (.cells (a ++ b ++ c).toArray t fr) →
    (w.setCells g a.length vs).heap[g]? = some (.cells (a ++ vs ++ c).toArray t fr) ∧ (∀ k, k ≠ g → (w.setCells g a.length vs).heap[k]? = w.heap[k]?) ∧ (w.setCells g a.length vs).heap.size = w.heap.size ∧ ∀ B, B ≤ g → Below B w (w.setCells g a.length vs)
  | [], b, a, c, w, hb, h => by
    obtain rfl := List.length_eq_zero_iff.1 hb
    exact ⟨h, fun _ _ => rfl, rfl, fun B _ => Below.refl _ _⟩
  | v :: vs, [], a, c, w, hb, h => by simp at hb
  | v :: vs, x :: b, a, c, w, hb, h => by
    have h1 : (w.setCell ⟨g, a.length, none⟩ v).heap[g]? = some (.cells ((a ++ [v]) ++ b ++ c).toArray t fr) := by
      obtain ⟨hlt, he⟩ := Array.getElem?_eq_some_iff.1 h
      have e1 : ((a ++ x :: b ++ c).toArray.setIfInBounds a.length v) = ((a ++ [v]) ++ b ++ c).toArray := by
        apply Array.ext'
        simp
      rw [← e1]
      simp [World.setCell, hlt, he, Array.getElem_modify]
    obtain ⟨k1, k2, k3, k4⟩ := setCells_heap g t fr vs b (a ++ [v]) c (w.setCell ⟨g, a.length, none⟩ v) (by simpa using hb) h1
    rw [List.length_append, List.length_singleton] at k1 k2 k3 k4
    refine ⟨by rw [show a ++ v :: vs ++ c = a ++ [v] ++ vs ++ c by simp]; exact k1, fun k hk => (k2 k hk).trans (Below.heap_setCell _ _ _ k hk), k3.trans (by simp [World.setCell]), fun B hB => ((Below.refl B w).setCell (p := ⟨g, a.length, none⟩) hB v).trans (k4 B hB)⟩
def delV (l : List (Int × Int)) (a : Int) : List (Int × Int) := l.take a.toNat ++ l.drop (a.toNat + 1) ++ [(0, 0)]
theorem delV_len (l : List (Int × Int)) (a b : Int) (h : 0 ≤ a ∧ a < (l.length : Int) ∧ b = a + 1) : (delV l a).length = l.length := by
  simp [delV]; omega
theorem del_fx (l : List (Int × Int)) (a b : Int) (h : 0 ≤ a ∧ a < (l.length : Int) ∧ b = a + 1) :
    FxC Try.prog 59 125 spanSh l [.int .i64 a, .int .i64 b] (delV l a) (some (l.length - 1)) := by
  obtain ⟨i, rfl⟩ : ∃ i : Nat, a = i := ⟨a.toNat, by omega⟩
  obtain ⟨h0, hi, rfl⟩ := h
  have hi' : i < l.length := by omega
  intro B w fz v cs vs hbs hfz hnz hrow hcat hms
  obtain ⟨v1, t1, rfl, rfl, v2, t2, rfl, rfl, rfl⟩ := hms
  rcases hrow with ⟨hn, _⟩ | ⟨g, cap, rest, rfl, hcap0, hBg, ⟨fr, hgh, hfr⟩, h1, h2, h3, h4⟩
  · omega
  obtain rfl := spCat_eq l cs hcat
  have hl := spCs_len l
  have hcell : ∀ t, w.cell? ⟨g, t, none⟩ = (spCs l ++ rest)[t]? := fun t => by simp [World.cell?, hgh]
  have hfrz : ∀ t, t < l.length * 2 → w.frozen? ⟨g, t, none⟩ = false := fun t ht => by
    rw [List.length_append] at hfr
    rcases hfr with rfl | hfr
    · simp [World.frozen?, hgh]
    · simp [World.frozen?, hgh]; omega
  have hsp : spCs l = spCs (l.take (i + 1)) ++ spCs (l.drop (i + 1)) := by rw [← spCs_app, List.take_append_drop]
  have ht1 : (spCs (l.take (i + 1))).length = (i + 1) * 2 := by rw [spCs_len, List.length_take]; congr 1; omega
  have hc := del_calls w g l.length cap i (i + 1) (spCs (l.drop (i + 1))) rfl hi' h1 (by unfold maxLen at h2; omega) (by rw [spCs_len, List.length_drop]) (fun t u hu => by
      rw [hcell, hsp, List.append_assoc, List.getElem?_append_right (by omega), ht1, Nat.add_sub_cancel_left, List.getElem?_append_left (List.getElem?_eq_some_iff.1 hu).1]; exact hu)
    (spCs_one _) (fun t ht => ⟨by rw [hcell, List.getElem?_eq_getElem (by rw [List.length_append]; omega)]; rfl, hfrz t ht⟩)
  rw [show ((i : Int) + 1) = ((i + 1 : Nat) : Int) by omega]
  refine hc.mono ?_
  rintro ex w' ⟨rfl, rfl⟩
  -- the cells, three parts and then four
  have e1 : spCs (l.take i) ++ (spCs (l.drop i)).take ((l.length - (i + 1)) * 2) ++ ((spCs (l.drop i)).drop ((l.length - (i + 1)) * 2) ++ rest) = spCs l ++ rest := by
    rw [List.append_assoc, ← List.append_assoc ((spCs (l.drop i)).take _), List.take_append_drop, ← List.append_assoc, ← spCs_app, List.take_append_drop]
  have hti : (spCs (l.take i)).length = i * 2 := by rw [spCs_len, List.length_take]; congr 1; omega
  have hdi : (spCs (l.drop i)).length = (l.length - i) * 2 := by rw [spCs_len, List.length_drop]
  have hdj : (spCs (l.drop (i + 1))).length = (l.length - (i + 1)) * 2 := by rw [spCs_len, List.length_drop]
  obtain ⟨p1, p2, p3, p4⟩ := setCells_heap g 125 fr (spCs (l.drop (i + 1))) ((spCs (l.drop i)).take ((l.length - (i + 1)) * 2)) (spCs (l.take i)) ((spCs (l.drop i)).drop ((l.length - (i + 1)) * 2) ++ rest) w.drew
    (by rw [List.length_take, hdi, hdj]; omega) (by rw [e1]; exact hgh)
  rw [hti] at p1 p2 p3 p4
  rw [Nat.zero_add]
  obtain ⟨W1, hW1⟩ : ∃ W1, w.drew.setCells g (i * 2) (spCs (l.drop (i + 1))) = W1 := ⟨_, rfl⟩
  rw [hW1] at p1 p2 p3 p4 ⊢
  rw [← List.append_assoc] at p1
  have hab : (spCs (l.take i) ++ spCs (l.drop (i + 1))).length = (i + (l.length - (i + 1))) * 2 := by rw [List.length_append, hti, hdj, Nat.add_mul]
  obtain ⟨q1, q2, q3, q4⟩ := setCells_heap g 125 fr [.int .i64 0, .int .i64 0] ((spCs (l.drop i)).drop ((l.length - (i + 1)) * 2)) (spCs (l.take i) ++ spCs (l.drop (i + 1))) rest W1
    (by rw [List.length_drop, hdi]; simp; omega) p1
  rw [hab] at q1 q2 q3 q4
  have ed : spCs (delV l (i : Int)) = spCs (l.take i) ++ spCs (l.drop (i + 1)) ++ [.int .i64 0, .int .i64 0] := by
    unfold delV
    rw [Int.toNat_natCast, spCs_app, spCs_app]; rfl
  have hlen := delV_len l (i : Int) ((i : Int) + 1) ⟨h0, hi, rfl⟩
  have hll : (spCs (delV l (i : Int))).length = l.length * 2 := by rw [spCs_len, hlen]
  refine ⟨_, rfl, ⟨spCs (delV l (i : Int)), .inr ⟨g, cap, rest, by rw [hlen], hcap0, hBg, ⟨fr, by rw [ed]; exact q1, ?_⟩, by rw [hlen]; exact h1, h2, by rw [hll, hlen]; rfl, ?_⟩, spCat _⟩, ?_, fun k hk hne => ?_, ?_⟩
  · rw [List.length_append] at hfr ⊢
    rw [hll, ← hl]; exact hfr
  · rw [List.length_append] at h4 ⊢
    rw [hll, ← hl]; exact h4
  · exact (((Below.refl B w).drew).trans (p4 B hBg)).trans (q4 B hBg)
  · have : k ≠ g := fun e => hne (by
      subst e
      cases cap with
      | zero => omega
      | succ c => rfl)
    exact (q2 k this).trans (p2 k this)
  · intro k hk
    obtain rfl := Option.some.inj hk
    exact ⟨_, _, cap, some ⟨g, 0, none⟩, rfl, h1, h2, by rw [Nat.sub_zero]; congr 1; omega, by omega, fun _ => by simp [Addr.add]⟩
end Go.Proofs.Ytnhdocmdjlijkaa
