/- The law StrikeSplits (narrowed), in plain Lean. -/
import Derived.Test.YtbpjinefbnlenaaGreatDoorFtw
import Derived.Test.YtbpjinefbnlenaaGreatDoorAm26
namespace Go.Proofs.YtbpjinefbnlenaaGreatDoor.Ca
open Go Go.RowKit
open Classical
set_option linter.unusedVariables false

abbrev Tx := List UInt8
/-- a text in pieces -/
def psF (size : Nat) : Nat → Tx → List Tx
  | 0, t => [t]
  | f + 1, t => if size ≤ t.length then t.take size :: psF size f (t.drop size) else [t]
def ps (size : Nat) (t : Tx) : List Tx := psF size t.length t
theorem psF_more (size : Nat) (h : 1 ≤ size) : ∀ (f g : Nat) (t : Tx), t.length ≤ f → t.length ≤ g → psF size f t = psF size g t
  | 0, 0, t, _, _ => rfl
  | 0, g + 1, t, hf, _ => by simp only [psF]; rw [if_neg (by omega)]
  | f + 1, 0, t, _, hg => by simp only [psF]; rw [if_neg (by omega)]
  | f + 1, g + 1, t, hf, hg => by
    simp only [psF]
    split
    · rw [psF_more size h f g (t.drop size) (by rw [List.length_drop]; omega) (by rw [List.length_drop]; omega)]
    · rfl
theorem ps_big {size : Nat} {t : Tx} (h : 1 ≤ size) (hl : size ≤ t.length) : ps size t = t.take size :: ps size (t.drop size) := by
  unfold ps
  obtain ⟨f, hf⟩ : ∃ f, t.length = f + 1 := ⟨t.length - 1, by omega⟩
  rw [hf]
  simp only [psF]
  rw [if_pos (by omega)]
  rw [psF_more size h f (t.drop size).length (t.drop size) (by rw [List.length_drop]; omega) (Nat.le_refl _)]
theorem ps_small {size : Nat} {t : Tx} (hl : t.length < size) : ps size t = [t] := by
  unfold ps
  cases ht : t.length with
  | zero => rfl
  | succ f =>
    simp only [psF]
    rw [if_neg (by omega)]
theorem ps_len {size : Nat} (h : 1 ≤ size) : ∀ (m : Nat) (t : Tx), t.length ≤ m → (ps size t).length = t.length / size + 1
  | m, t, hm => by
    by_cases hl : size ≤ t.length
    · rw [ps_big h hl, List.length_cons]
      cases m with
      | zero => omega
      | succ m =>
        rw [ps_len h m (t.drop size) (by rw [List.length_drop]; omega), List.length_drop]
        have : t.length / size = (t.length - size) / size + 1 := by rw [Nat.div_eq_sub_div (by omega) hl]
        omega
    · rw [ps_small (by omega), Nat.div_eq_of_lt (by omega)]; rfl
theorem t60 (n : Nat) (hn : 5000 < n) (t : Tx) (size : Nat) (h1 : 1 ≤ size) (ht : t.length ≤ 4096) : loopF (F4_l2 n (size : Int)) n (t, []) = some (0, ps size t) := by
  refine loopF_eq (F4_l2 n (size : Int)) (fun _ => some (0, ps size t)) (fun d => d.2 ++ ps size d.1 = ps size t ∧ d.1.length ≤ 4096 ∧ d.2.length + d.1.length ≤ 4096) (fun d => d.1.length) ?_ n (t, []) ⟨rfl, ht, by simpa using ht⟩ (by simp only; omega)
  rintro kk ⟨u, m⟩ ⟨e, hu, hm⟩ ih
  simp only at e hu hm
  simp only [F4_l2, Int.toNat_natCast]
  by_cases hl : size ≤ u.length
  · rw [decide_eq_true (show ((u.length : Nat) : Int) ≥ (size : Int) by omega), show subB u.length none (some (size : Int)) = true by simp [subB]; omega, show subB u.length (some (size : Int)) none = true by simp [subB]; omega, decide_eq_true (show m.length + [u.take size].length ≤ 8796093022208 by simp; omega)]
    simp only [cond_true]
    refine ih _ ⟨?_, ?_, ?_⟩ ?_
    · simp only
      rw [List.append_assoc, ← e, ps_big h1 hl]; rfl
    · simp only [List.length_drop]; omega
    · simp only [List.length_drop, List.length_append, List.length_cons, List.length_nil]; omega
    · simp only [List.length_drop]; omega
  · rw [decide_eq_false (show ¬ ((u.length : Nat) : Int) ≥ (size : Int) by omega), decide_eq_true (show m.length + [u].length ≤ 8796093022208 by simp; omega)]
    rw [← e, ps_small (by omega)]; rfl
/-! joining -/
def tot : List Tx → Nat
  | [] => 0
  | p :: l => p.length + tot l
theorem join_flat : ∀ l : List Tx, Lib.join l [] = l.flatten
  | [] => rfl
  | x :: l => by
    rw [Lib.join_cons]
    have : Lib.joinTail [] l = l.flatten := by
      unfold Lib.joinTail
      congr 1
      simp
    rw [this]; rfl
theorem flat_len : ∀ l : List Tx, l.flatten.length = tot l
  | [] => rfl
  | x :: l => by simp [tot, flat_len l]
theorem len_tot : ∀ (l : List Tx) (k : Nat), tot (l.take (k + 1)) = tot (l.take k) + (if k < l.length then (l.getD k []).length else 0)
  | [], k => by simp [tot]
  | x :: l, 0 => by simp [tot]
  | x :: l, k + 1 => by
    have := len_tot l k
    simp only [List.take_succ_cons, tot, this, List.length_cons, List.getD_cons_succ, Nat.add_lt_add_iff_right]
    omega
theorem tot_take_le : ∀ (l : List Tx) (k : Nat), tot (l.take k) ≤ tot l
  | [], k => by simp [tot]
  | x :: l, 0 => by simp [tot]
  | x :: l, k + 1 => by
    have := tot_take_le l k
    simp only [List.take_succ_cons, tot]; omega
/-- pieces of one size, but for the last -/
def goodP (size : Nat) : List Tx → Prop
  | [] => False
  | [p] => p.length < size
  | p :: q :: l => p.length = size ∧ goodP size (q :: l)
theorem good_ps {size : Nat} (h : 1 ≤ size) : ∀ (m : Nat) (t : Tx), t.length ≤ m → goodP size (ps size t) ∧ (ps size t).flatten = t
  | m, t, hm => by
    by_cases hl : size ≤ t.length
    · rw [ps_big h hl]
      cases m with
      | zero => omega
      | succ m =>
        obtain ⟨g1, g2⟩ := good_ps h m (t.drop size) (by rw [List.length_drop]; omega)
        refine ⟨?_, by rw [List.flatten_cons, g2, List.take_append_drop]⟩
        cases hq : ps size (t.drop size) with
        | nil => rw [hq] at g1; exact g1.elim
        | cons q l => rw [hq] at g1; exact ⟨by rw [List.length_take]; omega, g1⟩
    · rw [ps_small (by omega)]
      exact ⟨by show t.length < size; omega, by simp⟩
theorem good_all (size : Nat) : ∀ (l : List Tx), goodP size l ↔ (l ≠ [] ∧ ∀ j, j < l.length → (j + 1 < l.length → (l.getD j []).length = size) ∧ (j + 1 = l.length → (l.getD j []).length < size))
  | [] => by simp [goodP]
  | [p] => by
    constructor
    · intro h
      exact ⟨by simp, fun j hj => ⟨fun h2 => by simp at h2, fun h2 => by
        obtain rfl : j = 0 := by simpa using h2
        exact h⟩⟩
    · rintro ⟨_, h⟩
      exact (h 0 (by simp)).2 rfl
  | p :: q :: l => by
    have ih := good_all size (q :: l)
    constructor
    · rintro ⟨h1, h2⟩
      obtain ⟨_, h3⟩ := ih.1 h2
      refine ⟨by simp, fun j hj => ?_⟩
      cases j with
      | zero => exact ⟨fun _ => h1, fun h => by simp at h⟩
      | succ j =>
        have := h3 j (by simpa using hj)
        simp only [List.length_cons, List.getD_cons_succ] at this ⊢
        exact ⟨fun h => this.1 (by omega), fun h => this.2 (by omega)⟩
    · rintro ⟨_, h⟩
      refine ⟨(h 0 (by simp)).1 (by simp), ih.2 ⟨by simp, fun j hj => ?_⟩⟩
      have := h (j + 1) (by simpa using hj)
      simp only [List.length_cons, List.getD_cons_succ] at this ⊢
      exact ⟨fun h => this.1 (by omega), fun h => this.2 (by omega)⟩
noncomputable def joinR (l : List Tx) (size : Nat) : Tx × Int := if 4096 < tot l then ([], 2) else if goodP size l then (l.flatten, 0) else ([], 4)
theorem t110 (n : Nat) (l : List Tx) (h : tot l ≤ 4096) (hl : l.length ≤ 1048576) : F32 n l [] = some l.flatten := by
  unfold F32
  rw [join_flat, decide_eq_true (show l.flatten.length ≤ 140737488355328 ∧ l.length ≤ 140737488355328 by rw [flat_len]; omega)]; rfl
theorem t62 (n : Nat) (hn : 2000000 < n) (l : List Tx) (size : Nat) (h1 : 1 ≤ size) (h2 : size ≤ 64) (hl : l.length ≤ 1048576) (htl : tot l ≤ 1048576) : F13 n l (size : Int) = some (joinR l size) := by
  unfold F13
  rw [decide_eq_false (show ¬ (size : Int) < 1 by omega), decide_eq_false (show ¬ (size : Int) > 64 by omega)]
  simp only [cond_false]
  refine loopF_eq (F13_l7 n l (size : Int)) (fun _ => some (joinR l size)) (fun d => ∃ k : Nat, d = ((tot (l.take k) : Int), (k : Int)) ∧ k ≤ l.length) (fun d => l.length - d.2.toNat) ?_ n (0, 0) ⟨0, rfl, by omega⟩ (by simp; omega)
  rintro kk d ⟨k, rfl, hk⟩ ih
  simp only [F13_l7, Int.toNat_natCast]
  by_cases hka : k < l.length
  · have ht := len_tot l k
    rw [if_pos hka] at ht
    have hle := tot_take_le l (k + 1)
    rw [decide_eq_true (show (k : Int) < (l.length : Int) by omega), inb_true (show (0 : Int) ≤ k by omega) (show (k : Int) < l.length by omega), w64 (n := (k : Int) + 1) (by omega) (by omega), w64 (by omega) (by omega)]
    simp only [cond_true]
    exact ih _ ⟨k + 1, by rw [ht]; simp, by omega⟩ (by simp only [Int.toNat_natCast]; omega)
  · rw [decide_eq_false (show ¬ (k : Int) < (l.length : Int) by omega), show l.take k = l from List.take_of_length_le (by omega)]
    simp only [cond_false]
    unfold joinR
    by_cases h4 : 4096 < tot l
    · rw [if_pos h4, decide_eq_true (show ((tot l : Nat) : Int) > 4096 by omega)]; rfl
    · rw [if_neg h4, decide_eq_false (show ¬ ((tot l : Nat) : Int) > 4096 by omega)]
      simp only [cond_false]
      by_cases h0 : l.length = 0
      · rw [show (((l.length : Nat) : Int) == 0) = true by simp [h0], if_neg (fun hg => ((good_all size l).1 hg).1 (List.length_eq_zero_iff.1 h0))]; rfl
      · rw [show (((l.length : Nat) : Int) == 0) = false by simpa using h0]
        simp only [cond_false]
        refine loopF_eq (F13_l8 n l (size : Int)) (fun _ => some (if goodP size l then (l.flatten, 0) else ([], 4))) (fun x => ∃ k : Nat, x = (k : Int) ∧ k ≤ l.length ∧ ∀ j, j < k → (j + 1 < l.length → (l.getD j []).length = size) ∧ (j + 1 = l.length → (l.getD j []).length < size)) (fun x => l.length - x.toNat) ?_ n 0 ⟨0, rfl, by omega, fun j hj => by omega⟩ (by simp; omega)
        rintro kk2 x ⟨k, rfl, hk2, hall⟩ ih2
        have no : ∀ j, j < l.length → ¬ ((j + 1 < l.length → (l.getD j []).length = size) ∧ (j + 1 = l.length → (l.getD j []).length < size)) → some (([] : Tx), (4 : Int)) = some (if goodP size l then (l.flatten, 0) else ([], 4)) := fun j hj h => by
          rw [if_neg (fun hg => h (((good_all size l).1 hg).2 j hj))]
        simp only [F13_l8, Int.toNat_natCast]
        by_cases hka2 : k < l.length
        · rw [decide_eq_true (show (k : Int) < (l.length : Int) by omega), inb_true (show (0 : Int) ≤ k by omega) (show (k : Int) < l.length by omega), w64 (n := (k : Int) + 1) (by omega) (by omega), w64 (n := ((l.length : Nat) : Int) - 1) (by omega) (by omega)]
          simp only [cond_true]
          have next : ((k + 1 < l.length → (l.getD k []).length = size) ∧ (k + 1 = l.length → (l.getD k []).length < size)) → kk2 ((k : Int) + 1) = some (if goodP size l then (l.flatten, 0) else ([], 4)) := fun h => ih2 _ ⟨k + 1, by omega, by omega, fun j hj => by
            rcases Nat.lt_succ_iff_lt_or_eq.1 hj with h' | h'
            · exact hall j h'
            · subst h'; exact h⟩ (by simp only [Int.toNat_natCast]; omega)
          by_cases hlast : k + 1 = l.length
          · rw [decide_eq_false (show ¬ (k : Int) < ((l.length : Nat) : Int) - 1 by omega), show ((k : Int) == ((l.length : Nat) : Int) - 1) = true by rw [beq_iff_eq]; omega]
            simp only [cond_false, cond_true]
            by_cases hs : (l.getD k []).length < size
            · rw [decide_eq_false (show ¬ (((l.getD k []).length : Nat) : Int) ≥ (size : Int) by omega)]
              exact next ⟨fun h => by omega, fun _ => hs⟩
            · rw [decide_eq_true (show (((l.getD k []).length : Nat) : Int) ≥ (size : Int) by omega)]
              exact no k hka2 (fun h => hs (h.2 hlast))
          · rw [decide_eq_true (show (k : Int) < ((l.length : Nat) : Int) - 1 by omega), show ((k : Int) == ((l.length : Nat) : Int) - 1) = false by rw [beq_eq_false_iff_ne]; omega]
            simp only [cond_false, cond_true]
            by_cases hs : (l.getD k []).length = size
            · rw [show ((((l.getD k []).length : Nat) : Int) != (size : Int)) = false by rw [hs]; exact bne_self_eq_false _]
              exact next ⟨fun _ => hs, fun h => by omega⟩
            · rw [show ((((l.getD k []).length : Nat) : Int) != (size : Int)) = true by rw [bne_iff_ne]; omega]
              exact no k hka2 (fun h => hs (h.1 (by omega)))
        · rw [decide_eq_false (show ¬ (k : Int) < (l.length : Int) by omega), if_pos ((good_all size l).2 ⟨fun e => h0 (by rw [e]; rfl), fun j hj => hall j (by omega)⟩), t110 n l (by omega) hl]
          rfl
end Go.Proofs.YtbpjinefbnlenaaGreatDoor.Ca
