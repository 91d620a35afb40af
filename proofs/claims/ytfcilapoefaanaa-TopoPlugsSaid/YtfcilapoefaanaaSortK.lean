/- slices.SortFunc at elements of k cells, as the machine takes it: a row of elements of which no two are equal for the order is sorted. -/
import Derived.Test.YtfcilapoefaanaaAm14d
import Derived.Shelf.SlSortCmp.WholeK
namespace Go.Proofs.Ytfcilapoefaanaa
open Go Go.Shelf Go.RowKit Go.Lib Go.Sort
set_option linter.unusedVariables false

theorem flat_get {α : Type} [Inhabited α] (enc : α → List Value) (k : Nat) (hk : ∀ x, (enc x).length = k) : ∀ (ps : List α) (t : Nat), t < ps.length * k → (ps.flatMap enc)[t]? = (enc ps.toArray[t / k]!)[t % k]?
  | [], t, h => by simp at h
  | x :: ps, t, h => by
    have hk0 : 0 < k := by
      rcases Nat.eq_zero_or_pos k with h0 | h0
      · rw [h0] at h; simp at h
      · exact h0
    rw [List.flatMap_cons]
    by_cases ht : t < k
    · rw [List.getElem?_append_left (by rw [hk]; exact ht), Nat.div_eq_of_lt ht, Nat.mod_eq_of_lt ht]
      rfl
    · rw [List.getElem?_append_right (by rw [hk]; omega), hk, flat_get enc k hk ps (t - k) (by rw [List.length_cons, Nat.add_mul] at h; omega)]
      have e1 : t / k = (t - k) / k + 1 := by rw [← Nat.add_div_right (t - k) hk0]; congr 1; omega
      have e2 : t % k = (t - k) % k := by rw [← Nat.add_mod_right (t - k) k]; congr 1; omega
      rw [e1, e2]
      congr 2
      simp
theorem flatK_list {α : Type} [Inhabited α] (enc : α → List Value) (k : Nat) (hk : ∀ x, (enc x).length = k) (ps : List α) : flatK enc k ps.toArray = (ps.flatMap enc).toArray := by
  have hl : (ps.flatMap enc).length = ps.length * k := by
    induction ps with
    | nil => simp
    | cons x ps ih => rw [List.flatMap_cons, List.length_append, hk, ih, List.length_cons, Nat.add_mul]; omega
  apply ext_get!
  · simp [hl]
  · intro t ht
    have ht2 : t < ps.length * k := by simpa using ht
    rw [get_flatK enc k ps.toArray t (by simpa using ht2)]
    have h := flat_get enc k hk ps t ht2
    have hm : t % k < k := Nat.mod_lt _ (by
      rcases Nat.eq_zero_or_pos k with h0 | h0
      · rw [h0] at ht2; omega
      · exact h0)
    rw [List.getElem?_eq_getElem (by rw [hl]; exact ht2), List.getElem?_eq_getElem (by rw [hk]; exact hm), Option.some.injEq] at h
    rw [getElem!_pos (enc ps.toArray[t / k]!) (t % k) (by rw [hk]; exact hm), getElem!_pos _ t (by simpa [hl] using ht2)]
    simpa using h.symm
/-- an element that may be sorted, with its cells -/
structure El (w : World) (fz : Nat → Prop) (e : Sh) (ok : e.T → Prop) where
  x : e.T
  c : List Value
  h : ShR w fz e x c
  o : ok x
theorem els {w : World} {fz : Nat → Prop} {e : Sh} {ok : e.T → Prop} : ∀ (l : List e.T) (cs : List Value), CatR (ShR w fz e) l cs → (∀ x ∈ l, ok x) → ∃ ps : List (El w fz e ok), ps.map (·.x) = l ∧ cs = ps.flatMap (·.c)
  | [], cs, h, _ => ⟨[], rfl, h⟩
  | x :: l, cs, h, ho => by
    obtain ⟨c1, c2, rfl, h1, h2⟩ := h
    obtain ⟨ps, rfl, rfl⟩ := els l c2 h2 fun y hy => ho y (List.mem_cons_of_mem _ hy)
    exact ⟨⟨x, c1, h1, ho x List.mem_cons_self⟩ :: ps, rfl, rfl⟩
theorem els_cat {w : World} {fz : Nat → Prop} {e : Sh} {ok : e.T → Prop} : ∀ (ps : List (El w fz e ok)), CatR (ShR w fz e) (ps.map (·.x)) (ps.flatMap (·.c))
  | [] => rfl
  | p :: ps => ⟨p.c, _, rfl, p.h, els_cat ps⟩
theorem putCells_id (cs rest : List Value) (F : List Value) (h : F.length = cs.length) : putCells (α := Value) id 0 F.toArray (cs ++ rest).toArray = (F ++ rest).toArray := by
  apply Array.ext_getElem?
  intro j
  simp only [putCells, Array.getElem?_mapIdx, List.getElem?_toArray, List.size_toArray, Nat.zero_le, true_and, Nat.zero_add, Nat.sub_zero, id_eq]
  by_cases hj : j < F.length
  · rw [List.getElem?_append_left (by omega), List.getElem?_append_left hj, List.getElem?_eq_getElem (by omega), Option.map_some, if_pos hj, List.getElem?_eq_getElem hj]
    rw [getElem!_pos _ j (by simpa using hj)]
    simp
  · rw [List.getElem?_append_right (by omega), List.getElem?_append_right (by omega), h]
    cases rest[j - cs.length]? with
    | none => rfl
    | some y => rw [Option.map_some, if_neg (by omega)]
theorem sw_old {α : Type} [Inhabited α] (enc : α → List Value) (k : Nat) (w : World) (blk n : Nat) (d : Array α) (os : Array Obj) (j : Nat) (hj : j < w.heap.size) (hne : blk ≠ j) : (sortWorldK enc k w blk 0 n d os).heap[j]? = w.heap[j]? := by
  have hs : j < (putRowK enc k (Sort.ahead w n) blk 0 d).heap.size := by simpa [putRowK, putRow, mapBlock, Sort.ahead] using hj
  show ((putRowK enc k (Sort.ahead w n) blk 0 d).heap ++ os)[j]? = _
  rw [Array.getElem?_append_left hs]
  simp [putRowK, putRow, mapBlock, Sort.ahead, Array.getElem?_modify, hne]
theorem sw_row {α : Type} [Inhabited α] (enc : α → List Value) (k : Nat) (hk : ∀ x, (enc x).length = k) (w : World) (blk n : Nat) (ps : List α) (os : Array Obj) {cs rest : List Value} {T : TypeId} {fr : Nat × Nat} (hg : w.heap[blk]? = some (.cells (cs ++ rest).toArray T fr)) (hl : (ps.flatMap enc).length = cs.length) :
    (sortWorldK enc k w blk 0 n ps.toArray os).heap[blk]? = some (.cells (ps.flatMap enc ++ rest).toArray T fr) := by
  have hlt : blk < w.heap.size := (Array.getElem?_eq_some_iff.1 hg).1
  have hs : blk < (putRowK enc k (Sort.ahead w n) blk 0 ps.toArray).heap.size := by simpa [putRowK, putRow, mapBlock, Sort.ahead] using hlt
  show ((putRowK enc k (Sort.ahead w n) blk 0 ps.toArray).heap ++ os)[blk]? = _
  rw [Array.getElem?_append_left hs]
  have e : (putRowK enc k (Sort.ahead w n) blk 0 ps.toArray).heap = w.heap.modify blk (onCells (putCells id 0 (flatK enc k ps.toArray))) := rfl
  rw [e, Array.getElem?_modify, if_pos rfl, hg, flatK_list enc k hk]
  simp only [Option.map_some, onCells]
  rw [putCells_id cs rest _ hl]
theorem sort_fx {P : Program} {ρ : Ren} (L : SlLaysF0.n6 P ρ) (e : Sh) (k : Nat) (he : e.size = k) (aE : ∀ w, (isAgg (ρ.t 24)).run P w = .ok true w) (zE : ∀ w, (Go.sizeOf (ρ.t 24)).run P w = .ok k w) (g : Nat)
    (eg : ∀ args w, (callFunc g args).run P w = .ok (.enter g args) w) (ok : e.T → Prop) (cf : e.T → e.T → Int)
    (o1 : ∀ x, ok x → ¬ cf x x < 0) (o2 : ∀ x y z, ok x → ok y → ok z → cf x y < 0 → cf y z < 0 → cf x z < 0) (o3 : ∀ x y z, ok x → ok y → ok z → ¬ cf x y < 0 → ¬ cf y z < 0 → ¬ cf x z < 0)
    (hcl : ∀ (W : World) (fz : Nat → Prop) (x y : e.T) (cx cy : List Value), ok x → ok y → ShR W fz e x cx → ShR W fz e y cy → Calls P g #[.agg cx.toArray, .agg cy.toArray] W fun r w' => r = .returned (.int .i64 (cf x y)) ∧ ∃ q os, w' = grow (W.drewN q) os)
    (T : TypeId) (l l' : List e.T) (hl : l ≠ []) (hok : ∀ x ∈ l, ok x) (hp : l'.Perm l) (hs : l'.Pairwise fun x y => cf x y < 0) (hlen : l.length ≤ 1000000) :
    FxC P (ρ.f 6) T e l [.fn g] l' none := by
  intro B w fz v cs vs hbs hfz hnz hrow hcat hms
  obtain ⟨v1, t1, rfl, rfl, rfl⟩ := hms
  have hpos : 0 < l.length := by
    cases l with
    | nil => exact absurd rfl hl
    | cons a l => simp
  rcases hrow with ⟨hn, _⟩ | ⟨b, cap, rest, rfl, hcap0, hBg, ⟨fr, hgh, hfr⟩, h1, h2, h3, h4⟩
  · omega
  have hnb : ¬ fz b := hnz b (by
    cases cap with
    | zero => omega
    | succ c => rfl)
  obtain ⟨ps, hps, rfl⟩ := els l cs hcat hok
  have hpl : ps.length = l.length := by rw [← hps, List.length_map]
  haveI : Inhabited (El w fz e ok) := ⟨ps[0]'(by omega)⟩
  have hk : ∀ p : El w fz e ok, p.c.length = k := fun p => he ▸ ShR.length e p.x p.c p.h
  have hblt : b < w.heap.size := (Array.getElem?_eq_some_iff.1 hgh).1
  rw [he] at h3 h4
  have hkeep : ∀ (n : Nat) (d : Array (El w fz e ok)) os, Keeps fz fz w (sortWorldK (fun p : El w fz e ok => p.c) k w b 0 n d os) := fun n d os => by
    refine ⟨?_, fun j hf hj => sw_old _ _ _ _ _ _ _ _ hj (fun e => hnb (e ▸ hf)), fun _ h => h⟩
    show _ ≤ ((putRowK _ k (Sort.ahead w n) b 0 d).heap ++ os).size
    simp [putRowK, putRow, mapBlock, Sort.ahead]
  have hH : HoldsK (fun p : El w fz e ok => p.c) k w b 0 ps.toArray := by
    unfold HoldsK
    rw [flatK_list _ k hk]
    intro j hj
    have hj2 : j < (ps.flatMap (·.c)).length := by simpa using hj
    refine ⟨?_, ?_⟩
    · rw [Nat.zero_add]
      simp only [World.cell?, hgh]
      rw [getElem!_pos _ j hj]
      simp [List.getElem?_append_left hj2, List.getElem?_eq_getElem hj2]
    · rcases hfr with rfl | hfr
      · simp [World.frozen?, hgh]
      · have hfr := hfr.2
        rw [List.length_append] at hfr
        simp [World.frozen?, hgh]; omega
  have hO : SWO (ltOf fun p q : El w fz e ok => cf p.x q.x) := by
    refine ⟨fun p => ?_, fun p q r h1 h2 => ?_, fun p q r h1 h2 => ?_⟩
    · simpa [ltOf] using o1 p.x p.o
    · simp only [ltOf, decide_eq_true_eq] at h1 h2 ⊢
      exact o2 _ _ _ p.o q.o r.o h1 h2
    · simp only [ltOf, decide_eq_false_iff_not] at h1 h2 ⊢
      exact o3 _ _ _ p.o q.o r.o h1 h2
  have hcon := AnyQ.slices_SortFunc L k aE zE (fun p : El w fz e ok => p.c) hk (fun p => ShR.one e p.x p.c p.h) (fun p q => cf p.x q.x) hO g #[] b 0 cap ps.toArray w eg
    (fun m os dk hdk p q => hcl _ fz p.x q.x p.c q.c p.o q.o (ShR.keep (hkeep m dk os) e p.x p.c p.h) (ShR.keep (hkeep m dk os) e q.x q.c q.h)) hH hblt (by simp; omega)
  rw [show ps.toArray.size = l.length by simpa using hpl] at hcon
  refine hcon.mono ?_
  rintro ex w' ⟨rfl, d', n, os, hperm, hsort, rfl⟩
  obtain ⟨qs, rfl⟩ : ∃ qs : List (El w fz e ok), d' = qs.toArray := ⟨d'.toList, by simp⟩
  obtain ⟨hz, _, hpm⟩ := hperm
  have hz' : qs.length = ps.length := by simpa using hz
  have hql : qs.length = l.length := hz'.trans hpl
  have hpm' : qs.Perm ps := by
    have e1 : (qs.toArray.extract 0 l.length).toList = qs := by rw [← hql]; simp
    have e2 : (ps.toArray.extract 0 l.length).toList = ps := by rw [← hpl]; simp
    rwa [e1, e2] at hpm
  have hq : qs.map (·.x) = l' := by
    have p1 : (qs.map (·.x)).Perm l := hps ▸ hpm'.map _
    have asym : ∀ x y, ok x → ok y → cf x y < 0 → ¬ cf y x < 0 := fun x y hx hy h h2 => o1 x hx (o2 x y x hx hy hx h h2)
    refine List.Perm.eq_of_pairwise (le := fun x y => ¬ cf y x < 0) ?_ ?_ ?_ (p1.trans hp.symm)
    · intro x y hx hy h1 h2
      have hx' : x ∈ l' := hp.symm.subset (p1.subset hx)
      obtain ⟨i, hi, rfl⟩ := List.getElem_of_mem hx'
      obtain ⟨j, hj, rfl⟩ := List.getElem_of_mem hy
      rw [List.pairwise_iff_getElem] at hs
      rcases Nat.lt_trichotomy i j with h | h | h
      · exact absurd (hs i j hi hj h) h2
      · subst h; rfl
      · exact absurd (hs j i hj hi h) h1
    · rw [List.pairwise_map, List.pairwise_iff_getElem]
      intro i j hi hj hij
      have := hsort i j (Nat.zero_le _) hij (by omega)
      rw [getElem!_pos _ i (by simpa using hi), getElem!_pos _ j (by simpa using hj)] at this
      simpa [ltOf] using this
    · refine List.Pairwise.imp_of_mem (R := fun x y => cf x y < 0) (fun hx hy h => ?_) hs
      exact asym _ _ (hok _ (hp.subset hx)) (hok _ (hp.subset hy)) h
  have hfl : ∀ rs : List (El w fz e ok), (rs.flatMap (·.c)).length = rs.length * k := fun rs => CatR.length (fun y c hy => he ▸ ShR.length e y c hy) _ _ (els_cat rs) ▸ by simp
  have hl' : l'.length = l.length := hp.length_eq
  refine ⟨_, rfl, ⟨qs.flatMap (·.c), ?_, ?_⟩, ?_, fun j hj hne => ?_, fun _ h => by cases h⟩
  · refine .inr ⟨b, cap, rest, by rw [hl'], hcap0, hBg, ⟨fr, sw_row _ k hk w b n qs os hgh (by rw [hfl, hfl, hz']), ?_⟩, by omega, h2, by rw [hfl, hql, hl', he], by rw [List.length_append, hfl, hz', ← hfl, ← List.length_append, he]; exact h4⟩
    refine hfr.imp id fun h => ⟨h.1, ?_⟩
    have h := h.2
    rw [List.length_append, hfl] at h ⊢
    rw [hz']; exact h
  · rw [← hq]
    exact CatR.mono (fun y c hy => ShR.keep (hkeep n _ os) e y c hy) _ _ (els_cat qs)
  · exact ⟨rfl, rfl, rfl, (hkeep n _ os).size, fun j hj => sw_old _ _ _ _ _ _ _ _ (by omega) (by omega)⟩
  · exact sw_old _ _ _ _ _ _ _ _ hj (fun e => hne (by
      subst e
      cases cap with
      | zero => omega
      | succ c => rfl))
end Go.Proofs.Ytfcilapoefaanaa
