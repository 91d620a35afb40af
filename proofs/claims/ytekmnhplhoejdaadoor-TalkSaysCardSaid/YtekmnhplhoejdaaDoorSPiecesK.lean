/- Pieces of a text, in plain Lean. -/
import Derived.Test.YtekmnhplhoejdaaDoorFta
import Derived.Test.YtekmnhplhoejdaaDoorAm26
namespace Go.Proofs.YtekmnhplhoejdaaDoor.Ca
open Go Go.RowKit
open Classical
set_option linter.unusedVariables false

abbrev Tx := List UInt8
/-- a text in pieces -/
def psF (size : Nat) : Nat → Tx → List Tx
  | 0, t => [t]
  | f + 1, t => if size ≤ t.length then t.take size :: psF size f (t.drop size) else [t]
def ps (size : Nat) (t : Tx) : List Tx := psF size t.length t
theorem psF_more (size : Nat) (h : 1 ≤ size) : ∀ (f g : Nat) (t : Tx), t.length ≤ f → t.length ≤ g → psF size f t = psF size g t
  | 0, 0, t, _, _ => rfl
  | 0, g + 1, t, hf, _ => by simp only [psF]; rw [if_neg (by omega)]
  | f + 1, 0, t, _, hg => by simp only [psF]; rw [if_neg (by omega)]
  | f + 1, g + 1, t, hf, hg => by
    simp only [psF]
    split
    · rw [psF_more size h f g (t.drop size) (by rw [List.length_drop]; omega) (by rw [List.length_drop]; omega)]
    · rfl
theorem ps_big {size : Nat} {t : Tx} (h : 1 ≤ size) (hl : size ≤ t.length) : ps size t = t.take size :: ps size (t.drop size) := by
  unfold ps
  obtain ⟨f, hf⟩ : ∃ f, t.length = f + 1 := ⟨t.length - 1, by omega⟩
  rw [hf]
  simp only [psF]
  rw [if_pos (by omega)]
  rw [psF_more size h f (t.drop size).length (t.drop size) (by rw [List.length_drop]; omega) (Nat.le_refl _)]
theorem ps_small {size : Nat} {t : Tx} (hl : t.length < size) : ps size t = [t] := by
  unfold ps
  cases ht : t.length with
  | zero => rfl
  | succ f =>
    simp only [psF]
    rw [if_neg (by omega)]
theorem ps_len {size : Nat} (h : 1 ≤ size) : ∀ (m : Nat) (t : Tx), t.length ≤ m → (ps size t).length = t.length / size + 1
  | m, t, hm => by
    by_cases hl : size ≤ t.length
    · rw [ps_big h hl, List.length_cons]
      cases m with
      | zero => omega
      | succ m =>
        rw [ps_len h m (t.drop size) (by rw [List.length_drop]; omega), List.length_drop]
        have : t.length / size = (t.length - size) / size + 1 := by rw [Nat.div_eq_sub_div (by omega) hl]
        omega
    · rw [ps_small (by omega), Nat.div_eq_of_lt (by omega)]; rfl
theorem ps_get {size : Nat} (h : 1 ≤ size) : ∀ (m : Nat) (t : Tx) (j : Nat), t.length ≤ m → j < t.length / size + 1 → (ps size t).getD j [] = (t.take (min t.length ((j + 1) * size))).drop (j * size)
  | m, t, j, hm, hj => by
    by_cases hl : size ≤ t.length
    · rw [ps_big h hl]
      cases j with
      | zero => simp [Nat.min_eq_right hl]
      | succ j =>
        have hdiv : t.length / size = (t.length - size) / size + 1 := by rw [Nat.div_eq_sub_div (by omega) hl]
        cases m with
        | zero => omega
        | succ m =>
          rw [List.getD_cons_succ, ps_get h m (t.drop size) j (by rw [List.length_drop]; omega) (by rw [List.length_drop]; omega), List.length_drop]
          rw [List.take_drop, List.drop_drop]
          have e1 : size + min (t.length - size) ((j + 1) * size) = min t.length ((j + 1 + 1) * size) := by
            rw [Nat.add_mul (j + 1) 1 size]; omega
          have e2 : size + j * size = (j + 1) * size := by rw [Nat.add_mul]; omega
          rw [e1, e2]
    · rw [ps_small (by omega)]
      have : t.length / size = 0 := Nat.div_eq_of_lt (by omega)
      obtain rfl : j = 0 := by omega
      simp only [List.getD_cons_zero, Nat.zero_mul, List.drop_zero]
      rw [List.take_of_length_le (by omega)]
theorem t60 (n : Nat) (hn : 5000 < n) (t : Tx) (size : Nat) (h1 : 1 ≤ size) (ht : t.length ≤ 4096) : loopF (F29_l2 n (size : Int)) n (t, []) = some (0, ps size t) := by
  refine loopF_eq (F29_l2 n (size : Int)) (fun _ => some (0, ps size t)) (fun d => d.2 ++ ps size d.1 = ps size t ∧ d.1.length ≤ 4096 ∧ d.2.length + d.1.length ≤ 4096) (fun d => d.1.length) ?_ n (t, []) ⟨rfl, ht, by simpa using ht⟩ (by simp only; omega)
  rintro kk ⟨u, m⟩ ⟨e, hu, hm⟩ ih
  simp only at e hu hm
  simp only [F29_l2, Int.toNat_natCast]
  by_cases hl : size ≤ u.length
  · rw [decide_eq_true (show ((u.length : Nat) : Int) ≥ (size : Int) by omega), show subB u.length none (some (size : Int)) = true by simp [subB]; omega, show subB u.length (some (size : Int)) none = true by simp [subB]; omega, decide_eq_true (show m.length + [u.take size].length ≤ 8796093022208 by simp; omega)]
    simp only [cond_true]
    refine ih _ ⟨?_, ?_, ?_⟩ ?_
    · simp only
      rw [List.append_assoc, ← e, ps_big h1 hl]; rfl
    · simp only [List.length_drop]; omega
    · simp only [List.length_drop, List.length_append, List.length_cons, List.length_nil]; omega
    · simp only [List.length_drop]; omega
  · rw [decide_eq_false (show ¬ ((u.length : Nat) : Int) ≥ (size : Int) by omega), decide_eq_true (show m.length + [u].length ≤ 8796093022208 by simp; omega)]
    rw [← e, ps_small (by omega)]; rfl
theorem getD_ext2 {a b : List Tx} (hl : a.length = b.length) (h : ∀ k, k < a.length → a.getD k [] = b.getD k []) : a = b := by
  apply List.ext_getElem hl
  intro i h1 h2
  have := h i h1
  simpa [List.getD_eq_getElem?_getD, List.getElem?_eq_getElem h1, List.getElem?_eq_getElem h2] using this
theorem getD_setT (m : List Tx) (i j : Nat) (v : Tx) : (m.set i v).getD j [] = if j = i ∧ i < m.length then v else m.getD j [] := by
  simp only [List.getD_eq_getElem?_getD, List.getElem?_set]
  by_cases h : i = j
  · subst h
    by_cases h2 : i < m.length
    · simp [h2]
    · simp [h2]
  · rw [if_neg h, if_neg (fun hh => h hh.1.symm)]
theorem t61l (n : Nat) (hn : 5000 < n) (t : Tx) (size : Nat) (h1 : 1 ≤ size) (h2 : size ≤ 64) (ht : t.length ≤ 4096) : loopF (F37_l2 n t (size : Int)) n (0, List.replicate (t.length / size + 1) []) = some (0, ps size t) := by
  have hd : t.length / size ≤ t.length := Nat.div_le_self _ _
  have hdm : t.length / size * size ≤ t.length := Nat.div_mul_le_self _ _
  have hps := ps_len h1 t.length t (Nat.le_refl _)
  have hpg := fun j hj => ps_get h1 t.length t j (Nat.le_refl _) hj
  have e0 : ((t.length : Nat) : Int) / (size : Int) = ((t.length / size : Nat) : Int) := by simp
  obtain ⟨q, hq⟩ : ∃ q, t.length / size = q := ⟨_, rfl⟩
  rw [hq] at hd hdm hps e0
  rw [hq] at hpg
  have hN : IntKind.wrap .i64 (IntKind.wrap .i64 (((t.length : Nat) : Int).tdiv (size : Int)) + 1) = ((q + 1 : Nat) : Int) := by
    rw [Int.tdiv_eq_ediv_of_nonneg (by omega), e0, w64 (n := (q : Int)) (by omega) (by omega), w64 (by omega) (by omega)]; rfl
  rw [hq]
  refine loopF_eq (F37_l2 n t (size : Int)) (fun _ => some (0, ps size t)) (fun d => ∃ k : Nat, d.1 = (k : Int) ∧ k ≤ q + 1 ∧ d.2.length = q + 1 ∧ ∀ j, j < k → d.2.getD j [] = (ps size t).getD j []) (fun d => q + 1 - d.1.toNat) ?_ n (0, List.replicate (q + 1) []) ⟨0, rfl, by omega, by simp, fun j hj => by omega⟩ (by simp; omega)
  rintro kk ⟨x, m⟩ ⟨k, rfl, hk, hml, hv⟩ ih
  simp only at hml hv
  simp only [F37_l2, hN, Int.toNat_natCast, List.length_replicate]
  by_cases hka : k < q + 1
  · have hks : k * size ≤ t.length := by
      have : k ≤ q := by omega
      exact Nat.le_trans (Nat.mul_le_mul_right _ this) hdm
    have hks2 : (k + 1) * size ≤ 5000 := by rw [Nat.add_mul]; omega
    have e1 : IntKind.wrap .i64 ((k : Int) * (size : Int)) = ((k * size : Nat) : Int) := by
      have : (k : Int) * (size : Int) = ((k * size : Nat) : Int) := by simp
      rw [this, w64 (by omega) (by omega)]
    have e2 : IntKind.wrap .i64 (IntKind.wrap .i64 ((k : Int) + 1) * (size : Int)) = (((k + 1) * size : Nat) : Int) := by
      have : ((k : Int) + 1) * (size : Int) = (((k + 1) * size : Nat) : Int) := by simp
      rw [w64 (n := (k : Int) + 1) (by omega) (by omega), this, w64 (by omega) (by omega)]
    have e3 : (if (((k + 1) * size : Nat) : Int) < ((t.length : Nat) : Int) then (((k + 1) * size : Nat) : Int) else ((t.length : Nat) : Int)) = ((min t.length ((k + 1) * size) : Nat) : Int) := by
      split <;> omega
    have hmn : k * size ≤ min t.length ((k + 1) * size) := by rw [Nat.add_mul]; omega
    rw [e1, e2, e3, w64 (n := (k : Int) + 1) (by omega) (by omega), decide_eq_true (show (k : Int) < ((q + 1 : Nat) : Int) by omega), inb_true (show (0 : Int) ≤ k by omega) (show (k : Int) < m.length by omega)]
    rw [show subB t.length (some ((k * size : Nat) : Int)) (some ((min t.length ((k + 1) * size) : Nat) : Int)) = true by
      simp only [subB, Bool.and_eq_true, decide_eq_true_eq]; omega]
    simp only [cond_true, Int.toNat_natCast]
    refine ih _ ⟨k + 1, by simp, by omega, by simp [hml], fun j hj => ?_⟩ (by simp only; omega)
    simp only
    rw [getD_setT]
    by_cases hjk : j = k
    · subst hjk
      rw [if_pos ⟨rfl, by omega⟩, hpg j hka]
    · rw [if_neg (fun hh => hjk hh.1)]
      exact hv j (by omega)
  · rw [decide_eq_false (show ¬ (k : Int) < ((q + 1 : Nat) : Int) by omega)]
    simp only [cond_false, Option.some.injEq, Prod.mk.injEq, true_and]
    exact getD_ext2 (by rw [hml, hps]) (fun j hj => hv j (by omega))
theorem t61 (n : Nat) (hn : 5000 < n) (t : Tx) (size : Nat) (h1 : 1 ≤ size) (h2 : size ≤ 64) (ht : t.length ≤ 4096) : F37 n t (size : Int) = some (0, ps size t) := by
  have hl := t61l n hn t size h1 h2 ht
  have hd : t.length / size ≤ t.length := Nat.div_le_self _ _
  have hdm : t.length / size * size ≤ t.length := Nat.div_mul_le_self _ _
  have hps := ps_len h1 t.length t (Nat.le_refl _)
  have hpg := fun j hj => ps_get h1 t.length t j (Nat.le_refl _) hj
  have e0 : ((t.length : Nat) : Int) / (size : Int) = ((t.length / size : Nat) : Int) := by simp
  obtain ⟨q, hq⟩ : ∃ q, t.length / size = q := ⟨_, rfl⟩
  rw [hq] at hd hdm hps e0
  rw [hq] at hpg
  have hN : IntKind.wrap .i64 (IntKind.wrap .i64 (((t.length : Nat) : Int).tdiv (size : Int)) + 1) = ((q + 1 : Nat) : Int) := by
    rw [Int.tdiv_eq_ediv_of_nonneg (by omega), e0, w64 (n := (q : Int)) (by omega) (by omega), w64 (by omega) (by omega)]; rfl
  unfold F37 F27
  rw [decide_eq_true (show (1 : Int) ≤ (size : Int) by omega), decide_eq_true (show (size : Int) ≤ 64 by omega), decide_eq_false (show ¬ ((t.length : Nat) : Int) > 4096 by omega), show ((size : Int) != 0) = true by simp; omega]
  simp only [cond_true, cond_false, Option.bind_some, Bool.not_true]
  rw [hN]
  first
  | rw [decide_eq_true (show 0 ≤ ((q + 1 : Nat) : Int) ∧ ((q + 1 : Nat) : Int) ≤ 17179869184 by omega)]
  | rw [decide_eq_true (show 0 ≤ ((q + 1 : Nat) : Int) ∧ ((q + 1 : Nat) : Int) ≤ ((q + 1 : Nat) : Int) ∧ ((q + 1 : Nat) : Int) * 17 ≤ 140737488355328 by omega)]
  simp only [cond_true, Int.toNat_natCast]
  rw [← hq]
  exact hl
/-! joining -/
def tot : List Tx → Nat
  | [] => 0
  | p :: l => p.length + tot l
theorem join_flat : ∀ l : List Tx, Lib.join l [] = l.flatten
  | [] => rfl
  | x :: l => by
    rw [Lib.join_cons]
    have : Lib.joinTail [] l = l.flatten := by
      unfold Lib.joinTail
      congr 1
      simp
    rw [this]; rfl
theorem flat_len : ∀ l : List Tx, l.flatten.length = tot l
  | [] => rfl
  | x :: l => by simp [tot, flat_len l]
theorem len_tot : ∀ (l : List Tx) (k : Nat), tot (l.take (k + 1)) = tot (l.take k) + (if k < l.length then (l.getD k []).length else 0)
  | [], k => by simp [tot]
  | x :: l, 0 => by simp [tot]
  | x :: l, k + 1 => by
    have := len_tot l k
    simp only [List.take_succ_cons, tot, this, List.length_cons, List.getD_cons_succ, Nat.add_lt_add_iff_right]
    omega
theorem tot_take_le : ∀ (l : List Tx) (k : Nat), tot (l.take k) ≤ tot l
  | [], k => by simp [tot]
  | x :: l, 0 => by simp [tot]
  | x :: l, k + 1 => by
    have := tot_take_le l k
    simp only [List.take_succ_cons, tot]; omega
/-- pieces of one size, but for the last -/
def goodP (size : Nat) : List Tx → Prop
  | [] => False
  | [p] => p.length < size
  | p :: q :: l => p.length = size ∧ goodP size (q :: l)
theorem good_ps {size : Nat} (h : 1 ≤ size) : ∀ (m : Nat) (t : Tx), t.length ≤ m → goodP size (ps size t) ∧ (ps size t).flatten = t
  | m, t, hm => by
    by_cases hl : size ≤ t.length
    · rw [ps_big h hl]
      cases m with
      | zero => omega
      | succ m =>
        obtain ⟨g1, g2⟩ := good_ps h m (t.drop size) (by rw [List.length_drop]; omega)
        refine ⟨?_, by rw [List.flatten_cons, g2, List.take_append_drop]⟩
        cases hq : ps size (t.drop size) with
        | nil => rw [hq] at g1; exact g1.elim
        | cons q l => rw [hq] at g1; exact ⟨by rw [List.length_take]; omega, g1⟩
    · rw [ps_small (by omega)]
      exact ⟨by show t.length < size; omega, by simp⟩
theorem ps_good {size : Nat} (h : 1 ≤ size) : ∀ (l : List Tx), goodP size l → ps size l.flatten = l
  | [], hg => hg.elim
  | [p], hg => by
    have : p.length < size := hg
    rw [List.flatten_cons, List.flatten_nil, List.append_nil, ps_small this]
  | p :: q :: l, hg => by
    obtain ⟨h1, h2⟩ := hg
    have ih := ps_good h (q :: l) h2
    rw [List.flatten_cons, ps_big h (by rw [List.length_append]; omega)]
    rw [List.take_append_of_le_length (by omega), List.take_of_length_le (by omega), List.drop_append_of_le_length (by omega), List.drop_of_length_le (by omega), List.nil_append, ih]
theorem good_all (size : Nat) : ∀ (l : List Tx), goodP size l ↔ (l ≠ [] ∧ ∀ j, j < l.length → (j + 1 < l.length → (l.getD j []).length = size) ∧ (j + 1 = l.length → (l.getD j []).length < size))
  | [] => by simp [goodP]
  | [p] => by
    constructor
    · intro h
      exact ⟨by simp, fun j hj => ⟨fun h2 => by simp at h2, fun h2 => by
        obtain rfl : j = 0 := by simpa using h2
        exact h⟩⟩
    · rintro ⟨_, h⟩
      exact (h 0 (by simp)).2 rfl
  | p :: q :: l => by
    have ih := good_all size (q :: l)
    constructor
    · rintro ⟨h1, h2⟩
      obtain ⟨_, h3⟩ := ih.1 h2
      refine ⟨by simp, fun j hj => ?_⟩
      cases j with
      | zero => exact ⟨fun _ => h1, fun h => by simp at h⟩
      | succ j =>
        have := h3 j (by simpa using hj)
        simp only [List.length_cons, List.getD_cons_succ] at this ⊢
        exact ⟨fun h => this.1 (by omega), fun h => this.2 (by omega)⟩
    · rintro ⟨_, h⟩
      refine ⟨(h 0 (by simp)).1 (by simp), ih.2 ⟨by simp, fun j hj => ?_⟩⟩
      have := h (j + 1) (by simpa using hj)
      simp only [List.length_cons, List.getD_cons_succ] at this ⊢
      exact ⟨fun h => this.1 (by omega), fun h => this.2 (by omega)⟩
noncomputable def joinR (l : List Tx) (size : Nat) : Tx × Int := if 4096 < tot l then ([], 2) else if goodP size l then (l.flatten, 0) else ([], 4)
theorem t110 (n : Nat) (l : List Tx) (h : tot l ≤ 4096) (hl : l.length ≤ 1048576) : F45 n l [] = some l.flatten := by
  unfold F45
  rw [join_flat, decide_eq_true (show l.flatten.length ≤ 140737488355328 ∧ l.length ≤ 140737488355328 by rw [flat_len]; omega)]; rfl
end Go.Proofs.YtekmnhplhoejdaaDoor.Ca
