/- slices.Insert of one node: the four roads as one contract; as the machine takes it. -/
import Derived.Test.YtfcilapoefaanaaInsNode3
import Derived.Test.YtfcilapoefaanaaAm14d
namespace Go.Proofs.Ytfcilapoefaanaa
open Go Go.Shelf Go.RowKit Go.Lib
set_option linter.unusedVariables false

abbrev nodeSh : Sh := .st (.pair (.sl (.int .i64)) (.pair (.int .i64) (.pair (.int .i64) (.int .i64))))
theorem setCells_heap (g : Nat) (t : TypeId) (fr : Nat × Nat) : ∀ (vs b a c : List Value) (w : World), b.length = vs.length → w.heap[g]? = some (.cells (a ++ b ++ c).toArray t fr) →
    (w.setCells g a.length vs).heap[g]? = some (.cells (a ++ vs ++ c).toArray t fr) ∧ (∀ k, k ≠ g → (w.setCells g a.length vs).heap[k]? = w.heap[k]?) ∧ (w.setCells g a.length vs).heap.size = w.heap.size ∧ ∀ B, B ≤ g → Below B w (w.setCells g a.length vs)
  | [], b, a, c, w, hb, h => by
    obtain rfl := List.length_eq_zero_iff.1 hb
    exact ⟨h, fun _ _ => rfl, rfl, fun B _ => Below.refl _ _⟩
  | v :: vs, [], a, c, w, hb, h => by simp at hb
  | v :: vs, x :: b, a, c, w, hb, h => by
    have h1 : (w.setCell ⟨g, a.length, none⟩ v).heap[g]? = some (.cells ((a ++ [v]) ++ b ++ c).toArray t fr) := by
      obtain ⟨hlt, he⟩ := Array.getElem?_eq_some_iff.1 h
      have e1 : ((a ++ x :: b ++ c).toArray.setIfInBounds a.length v) = ((a ++ [v]) ++ b ++ c).toArray := by
        apply Array.ext'
        simp
      rw [← e1]
      simp [World.setCell, hlt, he, Array.getElem_modify]
    obtain ⟨k1, k2, k3, k4⟩ := setCells_heap g t fr vs b (a ++ [v]) c (w.setCell ⟨g, a.length, none⟩ v) (by simpa using hb) h1
    rw [List.length_append, List.length_singleton] at k1 k2 k3 k4
    refine ⟨by rw [show a ++ v :: vs ++ c = a ++ [v] ++ vs ++ c by simp]; exact k1, fun k hk => (k2 k hk).trans (Below.heap_setCell _ _ _ k hk), k3.trans (by simp [World.setCell]), fun B hB => ((Below.refl B w).setCell (p := ⟨g, a.length, none⟩) hB v).trans (k4 B hB)⟩
/-- the cells behind an insertion -/
def insC (cs us : List Value) (i : Nat) : List Value := cs.take (i * 4) ++ us ++ cs.drop (i * 4)
theorem insC_len (cs us : List Value) (n i : Nat) (hcl : cs.length = n * 4) (hul : us.length = 1 * 4) (hi : i ≤ n) : (insC cs us i).length = (n + 1) * 4 := by
  simp only [insC, List.length_append, List.length_take, List.length_drop, hcl, hul]; omega
/-- what the call leaves behind -/
def InsPost (B : Nat) (w : World) (v : Value) (n : Nat) (cs us : List Value) (i : Nat) (e : Ending) (w' : World) : Prop :=
  ∃ u, e = .returned u ∧ RowV B w' 33 4 u (n + 1) (insC cs us i) ∧ Below B w w' ∧ (∀ g, g < w.heap.size → rowBlk v ≠ some g → w'.heap[g]? = w.heap[g]?) ∧ (∀ g, rowBlk u = some g → rowBlk v = some g ∨ w.heap.size ≤ g)
theorem zc_list (l : Array Value) (k : Nat) (h : l.size = 4) : (Builtin.zeroCells l k).toList.length = k * 4 := by rw [Array.length_toList]; exact zc_size l k h
theorem post_new {B : Nat} {w w' : World} {v : Value} {n i : Nat} {cs us : List Value} (hcl : cs.length = n * 4) (hul : us.length = 1 * 4) (hi : i ≤ n) (hB : B ≤ w.heap.size) (G : Nat) (rest : List Value)
    (h : w'.heap[w.heap.size]? = some (.cells (insC cs us i ++ rest).toArray 33 (0, 0))) (hr : rest.length = (G - (n + 1)) * 4) (hG : n + 1 ≤ G) (hGm : G ≤ maxLen) (hb : Below B w w') (hk : ∀ g, g < w.heap.size → w'.heap[g]? = w.heap[g]?) :
    InsPost B w v n cs us i (.returned (.slice (some ⟨w.heap.size, 0, none⟩) (n + 1) G)) w' := by
  have hl := insC_len cs us n i hcl hul hi
  refine ⟨_, rfl, .inr ⟨w.heap.size, G, rest, rfl, by omega, hB, ⟨(0, 0), h, .inl rfl⟩, by omega, hGm, hl, ?_⟩, hb, fun g hg _ => hk g hg, fun g hg => .inr ?_⟩
  · rw [List.length_append, hl, hr]; omega
  · cases G with
    | zero => omega
    | succ k =>
      have : some w.heap.size = some g := hg
      obtain rfl := Option.some.inj this
      exact Nat.le_refl _
theorem ins_all (B : Nat) (w : World) (v : Value) (n i : Nat) (cs us : List Value) (hn : n ≤ 1000000) (hi : i ≤ n) (hul : us.length = 1 * 4) (h1c : ∀ v ∈ cs, v.oneCell' = true) (h1u : ∀ v ∈ us, v.oneCell' = true) (vb vc : Nat) (hB : B ≤ w.heap.size)
    (hrow : RowV B w 33 4 v n cs) (hvne : rowBlk v ≠ some vb)
    (hx : ∀ j u, us[j]? = some u → w.cell? ⟨vb, 0 + j, none⟩ = some u) (tA : TypeId) (kA : Nat) (hsa : w.shape? vb = some (tA, kA)) (hfa : w.frozen? ⟨vb, 0, none⟩ = false) (hfe : w.frozen? ⟨vb, kA, none⟩ = false) :
    Calls Try.prog 32 #[v, .int .i64 i, .slice (some ⟨vb, 0, none⟩) 1 vc] w (InsPost B w v n cs us i) := by
  rcases hrow with ⟨hn, rfl, a, rfl⟩ | ⟨g, cap, rest, rfl, hcap0, hBg, ⟨fr, hgh, hfr⟩, h1, h2, h3, h4⟩
  · subst hn
    obtain rfl : i = 0 := by omega
    refine (ins_end_grow a 0 0 vb 0 1 vc [] us w (by omega) (by omega) (by omega) (by omega) rfl hul (fun _ => rfl) (fun _ _ j u hu => by simp at hu) hx h1u).mono ?_
    rintro ex w' ⟨rfl, rfl⟩
    have hG : 1 ≤ grownCap w (0 + 1) 0 33 := grownCap_ge w _ _ _
    have hGm := grownCap_le_maxLen w (0 + 1) 0 33 (by unfold maxLen; omega)
    refine post_new (n := 0) (i := 0) (cs := []) rfl hul (Nat.le_refl _) hB (grownCap w (0 + 1) 0 33) (Builtin.zeroCells (Value.agg #[.slice none 0 0, .int .i64 0, .int .i64 0, .int .i64 0]).cells (grownCap w (0 + 1) 0 33 - (0 + 1))).toList ?_ (zc_list _ _ rfl) hG hGm (((Below.refl B w).drew).alloc hB _) (fun k hk => Below.heap_alloc w.drew _ k hk)
    have := heap_alloc_new w.drew (.cells (([] ++ us).toArray ++ Builtin.zeroCells (Value.agg #[.slice none 0 0, .int .i64 0, .int .i64 0, .int .i64 0]).cells (grownCap w (0 + 1) 0 33 - (0 + 1))) 33)
    refine Eq.trans this ?_
    congr 2
    apply Array.ext'
    simp [insC]
  have hcap : 0 < cap := hcap0
  have hne : vb ≠ g := fun e => hvne (by
    subst e
    cases cap with
    | zero => omega
    | succ c => rfl)
  have hcell : ∀ t, w.cell? ⟨g, t, none⟩ = (cs ++ rest)[t]? := fun t => by simp [World.cell?, hgh]
  have hglt : g < w.heap.size := (Array.getElem?_eq_some_iff.1 hgh).1
  have hcs : ∀ j u, cs[j]? = some u → w.cell? ⟨g, 0 + j, none⟩ = some u := fun j u hu => by
    rw [Nat.zero_add, hcell, List.getElem?_append_left (List.getElem?_eq_some_iff.1 hu).1]; exact hu
  have hil := insC_len cs us n i h3 hul hi
  by_cases hroom : n + 1 ≤ cap
  · -- there is room
    have hrl : rest.length = (cap - n) * 4 := by rw [List.length_append, h3] at h4; omega
    have hsp : ∀ j, j < (n + 1) * 4 → (w.cell? ⟨g, 0 + j, none⟩).isSome = true := fun j hj => by
      rw [Nat.zero_add, hcell, List.getElem?_eq_getElem (by rw [List.length_append, h3]; omega)]; rfl
    have hfz : ∀ j, j < (n + 1) * 4 → w.frozen? ⟨g, 0 + j, none⟩ = false := fun j hj => by
      rw [List.length_append, h3] at hfr
      rcases hfr with rfl | hfr
      · simp [World.frozen?, hgh]
      · have hfr := hfr.2
        simp [World.frozen?, hgh]; omega
    by_cases hend : i = n
    · subst hend
      refine (ins_end_room g 0 i cap vb 0 1 vc us w (by omega) hroom (by unfold maxLen at h2; omega) hul (fun j hj => by have := hsp (i * 4 + j) (by omega); rwa [← Nat.add_assoc] at this) (fun j hj => by have := hfz (i * 4 + j) (by omega); rwa [← Nat.add_assoc] at this) hx h1u).mono ?_
      rintro ex w' ⟨rfl, rfl⟩
      obtain ⟨p1, p2, p3, p4⟩ := setCells_heap g 33 fr us (rest.take (1 * 4)) cs (rest.drop (1 * 4)) w (by rw [List.length_take, hrl, hul]; omega) (by rw [List.append_assoc, List.take_append_drop]; exact hgh)
      rw [h3] at p1 p2 p3 p4
      rw [Nat.zero_add]
      have ei : insC cs us i = cs ++ us := by unfold insC; rw [← h3, List.take_length, List.drop_length, List.append_nil]
      refine ⟨_, rfl, .inr ⟨g, cap, rest.drop (1 * 4), rfl, hcap0, hBg, ⟨fr, by rw [ei]; exact p1, ?_⟩, by omega, h2, hil, ?_⟩, p4 B hBg, fun k hk hn => p2 k (fun e => hn (by
        subst e
        cases cap with
        | zero => omega
        | succ c => rfl)), fun k hk => .inl (by
        cases cap with
        | zero => omega
        | succ c => exact hk)⟩
      · rcases hfr with h | h
        · exact .inl h
        · refine .inr ⟨h.1, ?_⟩
          have h := h.2
          rw [List.length_append] at h ⊢
          rw [hil, List.length_drop]; omega
      · rw [List.length_append, hil, List.length_drop]; omega
    · have hilt : i < n := by omega
      obtain ⟨tB, kB, hsb, hkB⟩ : ∃ tB kB, w.shape? g = some (tB, kB) ∧ kB ≠ 0 := by
        refine ⟨33, (cs ++ rest).length, by simp [World.shape?, hgh], by rw [h4]; omega⟩
      refine (ins_shift g 0 n cap i vb 0 1 vc cs us w hilt (by omega) hroom (by unfold maxLen at h2; omega) hne h3 hul hcs hsp hfz hx h1c h1u tA tB kA kB hsa hsb hkB hfa hfe).mono ?_
      rintro ex w' ⟨rfl, rfl⟩
      rw [Nat.zero_add, Nat.zero_add]
      obtain ⟨A, hAe⟩ : ∃ A, cs.take (i * 4) = A := ⟨_, rfl⟩
      obtain ⟨D, hDe⟩ : ∃ D, cs.drop (i * 4) = D := ⟨_, rfl⟩
      have hA : A.length = i * 4 := by rw [← hAe, List.length_take, h3]; omega
      have hD : D.length = (n - i) * 4 := by rw [← hDe, List.length_drop, h3]; omega
      have esp : cs = A ++ D := by rw [← hAe, ← hDe, List.take_append_drop]
      have ei : insC cs us i = A ++ us ++ D := by rw [insC, hAe, hDe]
      rw [hDe]
      have e1 : A ++ D.take (1 * 4) ++ (D.drop (1 * 4) ++ rest.take (1 * 4)) ++ rest.drop (1 * 4) = cs ++ rest := by
        rw [esp, List.append_assoc, List.append_assoc, List.append_assoc, List.append_assoc, List.take_append_drop, ← List.append_assoc (D.take (1 * 4)), List.take_append_drop]
      obtain ⟨p1, p2, p3, p4⟩ := setCells_heap g 33 fr D (D.drop (1 * 4) ++ rest.take (1 * 4)) (A ++ D.take (1 * 4)) (rest.drop (1 * 4)) w.drew (by rw [List.length_append, List.length_drop, List.length_take, hD, hrl]; omega) (by rw [e1]; exact hgh)
      have hA2 : (A ++ D.take (1 * 4)).length = (i + 1) * 4 := by rw [List.length_append, hA, List.length_take, hD]; omega
      rw [hA2] at p1 p2 p3 p4
      obtain ⟨W1, hW1⟩ : ∃ W1, w.drew.setCells g ((i + 1) * 4) D = W1 := ⟨_, rfl⟩
      rw [hW1] at p1 p2 p3 p4 ⊢
      obtain ⟨q1, q2, q3, q4⟩ := setCells_heap g 33 fr us (D.take (1 * 4)) A (D ++ rest.drop (1 * 4)) W1 (by rw [List.length_take, hD, hul]; omega) (by rw [← List.append_assoc]; exact p1)
      rw [hA] at q1 q2 q3 q4
      refine ⟨_, rfl, .inr ⟨g, cap, rest.drop (1 * 4), rfl, hcap0, hBg, ⟨fr, by rw [ei, List.append_assoc]; exact q1, ?_⟩, by omega, h2, hil, ?_⟩, (((Below.refl B w).drew).trans (p4 B hBg)).trans (q4 B hBg), fun k hk hn => ?_, fun k hk => .inl (by
        cases cap with
        | zero => omega
        | succ c => exact hk)⟩
      · rcases hfr with h | h
        · exact .inl h
        · refine .inr ⟨h.1, ?_⟩
          have h := h.2
          rw [List.length_append] at h ⊢
          rw [hil, List.length_drop]; omega
      · rw [List.length_append, hil, List.length_drop]; omega
      · have hkg : k ≠ g := fun e => hn (by
          subst e
          cases cap with
          | zero => omega
          | succ c => rfl)
        exact (q2 k hkg).trans (p2 k hkg)
  · -- no room
    have hG : n + 1 ≤ grownCap w (n + 1) cap 33 := grownCap_ge w _ _ _
    have hGm := grownCap_le_maxLen w (n + 1) cap 33 (by unfold maxLen; omega)
    by_cases hend : i = n
    · subst hend
      refine (ins_end_grow (some ⟨g, 0, none⟩) i cap vb 0 1 vc cs us w (by omega) h1 (by omega) (by omega) h3 hul (fun h => by cases h) (fun a ha j u hu => by
        obtain rfl := Option.some.inj ha
        rw [Addr.add_lit]; exact hcs j u hu) hx h1u).mono ?_
      rintro ex w' ⟨rfl, rfl⟩
      refine post_new h3 hul (Nat.le_refl _) hB (grownCap w (i + 1) cap 33) (Builtin.zeroCells (Value.agg #[.slice none 0 0, .int .i64 0, .int .i64 0, .int .i64 0]).cells (grownCap w (i + 1) cap 33 - (i + 1))).toList ?_ (zc_list _ _ rfl) hG hGm (((Below.refl B w).drew).alloc hB _) (fun k hk => Below.heap_alloc w.drew _ k hk)
      refine Eq.trans (heap_alloc_new w.drew _) ?_
      have ei : insC cs us i = cs ++ us := by unfold insC; rw [← h3, List.take_length, List.drop_length, List.append_nil]
      rw [ei]
      congr 2
      apply Array.ext'
      simp
    · have hilt : i < n := by omega
      refine (ins_grow g 0 n cap i vb 0 1 vc cs us w hilt (by omega) h1 (by omega) (by omega) h3 hul hcs hx h1c h1u).mono ?_
      rintro ex w' ⟨rfl, rfl⟩
      obtain ⟨G, hGe⟩ : ∃ G, G = grownCap w (n + 1) cap 33 := ⟨_, rfl⟩
      rw [← hGe] at hG hGm ⊢
      obtain ⟨A, hAe⟩ : ∃ A, cs.take (i * 4) = A := ⟨_, rfl⟩
      obtain ⟨D, hDe⟩ : ∃ D, cs.drop (i * 4) = D := ⟨_, rfl⟩
      have hA : A.length = i * 4 := by rw [← hAe, List.length_take, h3]; omega
      have hD : D.length = (n - i) * 4 := by rw [← hDe, List.length_drop, h3]; omega
      have ei : insC cs us i = A ++ us ++ D := by rw [insC, hAe, hDe]
      rw [hAe, hDe]
      obtain ⟨Z, hZ⟩ : ∃ Z : List Value, Z = (Builtin.zeroCells (Value.agg #[.slice none 0 0, .int .i64 0, .int .i64 0, .int .i64 0]).cells (n + 1 - i)).toList ++ (Builtin.zeroCells (Value.agg #[.slice none 0 0, .int .i64 0, .int .i64 0, .int .i64 0]).cells (G - (n + 1))).toList := ⟨_, rfl⟩
      have hZl : Z.length = (G - i) * 4 := by rw [hZ, List.length_append, zc_list _ _ rfl, zc_list _ _ rfl]; omega
      obtain ⟨W0, hW0⟩ : ∃ W0, W0 = w.alloc (.cells (A.toArray ++ Builtin.zeroCells (Value.agg #[.slice none 0 0, .int .i64 0, .int .i64 0, .int .i64 0]).cells (n + 1 - i) ++ Builtin.zeroCells (Value.agg #[.slice none 0 0, .int .i64 0, .int .i64 0, .int .i64 0]).cells (G - (n + 1))) 33) := ⟨_, rfl⟩
      rw [← hW0]
      have h0 : W0.drew.heap[w.heap.size]? = some (.cells (A ++ Z.take (1 * 4) ++ Z.drop (1 * 4)).toArray 33 (0, 0)) := by
        show W0.heap[w.heap.size]? = _
        rw [hW0]
        refine Eq.trans (heap_alloc_new w _) ?_
        congr 2
        apply Array.ext'
        rw [List.append_assoc, List.take_append_drop, hZ]
        simp
      obtain ⟨p1, p2, p3, p4⟩ := setCells_heap w.heap.size 33 (0, 0) us (Z.take (1 * 4)) A (Z.drop (1 * 4)) W0.drew (by rw [List.length_take, hZl, hul]; omega) h0
      rw [hA] at p1 p2 p3 p4
      obtain ⟨W1, hW1⟩ : ∃ W1, W0.drew.setCells w.heap.size (i * 4) us = W1 := ⟨_, rfl⟩
      rw [hW1] at p1 p2 p3 p4 ⊢
      have e2 : A ++ us ++ (Z.drop (1 * 4)).take ((n - i) * 4) ++ (Z.drop (1 * 4)).drop ((n - i) * 4) = A ++ us ++ Z.drop (1 * 4) := by
        rw [List.append_assoc _ ((Z.drop (1 * 4)).take _), List.take_append_drop]
      obtain ⟨q1, q2, q3, q4⟩ := setCells_heap w.heap.size 33 (0, 0) D ((Z.drop (1 * 4)).take ((n - i) * 4)) (A ++ us) ((Z.drop (1 * 4)).drop ((n - i) * 4)) W1.drew (by rw [List.length_take, List.length_drop, hZl, hD]; omega) (by rw [e2]; exact p1)
      have hA2 : (A ++ us).length = (i + 1) * 4 := by rw [List.length_append, hA, hul]; omega
      rw [hA2] at q1 q2 q3 q4
      have b0 : Below B w W0 := by rw [hW0]; exact (Below.refl B w).alloc hB _
      refine post_new h3 hul hi hB G ((Z.drop (1 * 4)).drop ((n - i) * 4)) (by rw [ei]; exact q1) (by rw [List.length_drop, List.length_drop, hZl]; omega) hG hGm ((((b0.drew).trans (p4 B hB)).drew).trans (q4 B hB)) (fun k hk => ?_)
      refine (q2 k (by omega)).trans ((p2 k (by omega)).trans ?_)
      show W0.heap[k]? = _
      rw [hW0]
      exact Below.heap_alloc w _ k hk
def insV {α : Type} (l : List α) (i : Nat) (x : α) : List α := l.take i ++ x :: l.drop i
theorem insV_len {α : Type} (l : List α) (i : Nat) (x : α) (h : i ≤ l.length) : (insV l i x).length = l.length + 1 := by
  simp [insV]; omega
theorem catR_split {α : Type} {R : α → List Value → Prop} {k : Nat} (hR : ∀ y c, R y c → c.length = k) : ∀ (l : List α) (cs : List Value) (i : Nat), CatR R l cs → CatR R (l.take i) (cs.take (i * k)) ∧ CatR R (l.drop i) (cs.drop (i * k))
  | l, cs, 0, h => by simp only [Nat.zero_mul, List.take_zero, List.drop_zero]; exact ⟨rfl, h⟩
  | [], cs, i + 1, h => by obtain rfl : cs = [] := h; simp only [List.take_nil, List.drop_nil]; exact ⟨rfl, rfl⟩
  | x :: l, cs, i + 1, h => by
    obtain ⟨c1, c2, rfl, h1, h2⟩ := h
    have hl := hR x c1 h1
    obtain ⟨k1, k2⟩ := catR_split hR l c2 i h2
    have e : (i + 1) * k = c1.length + i * k := by rw [hl, Nat.add_mul, Nat.one_mul, Nat.add_comm]
    rw [e, List.take_succ_cons, List.drop_succ_cons, List.take_length_add_append, List.drop_length_add_append]
    exact ⟨⟨c1, _, rfl, h1, k1⟩, k2⟩
theorem catR_app {α : Type} {R : α → List Value → Prop} : ∀ (l m : List α) (cs ds : List Value), CatR R l cs → CatR R m ds → CatR R (l ++ m) (cs ++ ds)
  | [], m, cs, ds, h, h2 => by obtain rfl : cs = [] := h; exact h2
  | x :: l, m, cs, ds, h, h2 => by
    obtain ⟨c1, c2, rfl, h1, h3⟩ := h
    rw [List.append_assoc]
    exact ⟨c1, c2 ++ ds, rfl, h1, catR_app l m c2 ds h3 h2⟩
theorem ins_mv (e : Sh) (he : e.size = 4) (l : List e.T) (i : Int) (x : e.T) (h : 0 ≤ i ∧ i ≤ (l.length : Int) ∧ l.length ≤ 1000000) :
    MvC2 Try.prog 32 33 e l [.int .i64 i, .src [x]] (insV l i.toNat x) := by
  obtain ⟨h0, hi, hn⟩ := h
  obtain ⟨i, rfl⟩ : ∃ k : Nat, i = k := ⟨i.toNat, by omega⟩
  rw [Int.toNat_natCast]
  have hi' : i ≤ l.length := by omega
  intro B w fz v cs vs hbs hfz hnz hrow hcat hms
  obtain ⟨v1, t1, rfl, rfl, v2, t2, rfl, ⟨us, ad, vc, rfl, hul, hc1, hc2, hcx, hx⟩, rfl⟩ := hms
  obtain ⟨vb, tA, kA, rfl, hvne, _, hx, hsa, hfa, hfe⟩ := hx (by simp)
  rw [he] at hrow hul
  have hR : ∀ (y : e.T) c, ShR w fz e y c → c.length = 4 := fun y c hy => he ▸ ShR.length e y c hy
  refine (ins_all B w v l.length i cs us hn hi' hul (CatR.one' e l cs hcat) (CatR.one' e [x] us hcx) vb vc hbs.1 hrow hvne hx tA kA hsa hfa hfe).mono ?_
  rintro ex w' ⟨u, rfl, hrow', hbel, hfr, hnew⟩
  refine ⟨u, rfl, ⟨insC cs us i, ?_, ?_⟩, hbel, hfr, hnew⟩
  · rw [insV_len l i x hi', he]; exact hrow'
  · obtain ⟨k1, k2⟩ := catR_split (k := 4) hR l cs i hcat
    rw [insV, show x :: l.drop i = [x] ++ l.drop i from rfl, insC, ← List.append_assoc]
    exact catR_app _ _ _ _ (catR_app _ _ _ _ k1 hcx) k2
theorem ins_mvS (e : Sh) (he : e.size = 4) (l : List e.T) (i : Int) (m : List e.T) (d : e.T) (h : 0 ≤ i ∧ i ≤ (l.length : Int) ∧ l.length ≤ 1000000 ∧ m.length = 1) :
    MvC2 Try.prog 32 33 e l [.int .i64 i, .src m] (insV l i.toNat (m.headD d)) := by
  obtain ⟨h0, h1, h2, h3⟩ := h
  match m, h3 with
  | [x], _ => exact ins_mv e he l i x ⟨h0, h1, h2⟩
end Go.Proofs.Ytfcilapoefaanaa
