/- What is carried, in plain Lean. -/
import Derived.Test.YtekmnhplhoejdaaDoorSCarry
namespace Go.Proofs.YtekmnhplhoejdaaDoor.Ca
open Go Go.RowKit
open Classical
set_option linter.unusedVariables false

def fatesOk (fs : List Int) : Prop := ∀ k, k < fs.length → 1 ≤ fs.getD k 0 ∧ fs.getD k 0 ≤ 5
theorem checkP (n : Nat) (hn : 5000 < n) (fs : List Int) (hf : fs.length ≤ 1000) (y : Int × List Tx) : loopF (F60_l2 n fs y) n 0 = if fatesOk fs then some (0, y.2) else some (1, []) := by
  refine loopF_eq (F60_l2 n fs y) (fun _ => if fatesOk fs then some (0, y.2) else some (1, [])) (fun x => ∃ k : Nat, x = (k : Int) ∧ k ≤ fs.length ∧ ∀ j, j < k → 1 ≤ fs.getD j 0 ∧ fs.getD j 0 ≤ 5) (fun x => fs.length - x.toNat) ?_ n 0 ⟨0, rfl, by omega, fun j h => by omega⟩ (by simp; omega)
  rintro kk x ⟨k, rfl, hk, hall⟩ ih
  simp only [F60_l2, Int.toNat_natCast]
  by_cases hka : k < fs.length
  · rw [decide_eq_true (show (k : Int) < ((fs.length : Nat) : Int) by omega), inb_true (show (0 : Int) ≤ k by omega) (show (k : Int) < (fs.length : Nat) by omega), w64 (n := (k : Int) + 1) (by omega) (by omega)]
    simp only [cond_true]
    have no : ¬ (1 ≤ fs.getD k 0 ∧ fs.getD k 0 ≤ 5) → some ((1 : Int), ([] : List Tx)) = if fatesOk fs then some (0, y.2) else some (1, []) := fun h => by rw [if_neg (fun hh => h (hh k hka))]
    by_cases q1 : fs.getD k 0 < 1
    · rw [decide_eq_true q1]; exact no (by omega)
    rw [decide_eq_false q1]
    by_cases q2 : fs.getD k 0 > 5
    · rw [decide_eq_true q2]; exact no (by omega)
    rw [decide_eq_false q2]
    exact ih _ ⟨k + 1, by omega, by omega, fun j hj => by
      rcases Nat.lt_succ_iff_lt_or_eq.1 hj with h | h
      · exact hall j h
      · subst h; omega⟩ (by omega)
  · obtain rfl : k = fs.length := by omega
    rw [decide_eq_false (by omega), if_pos (show fatesOk fs from hall)]; rfl
theorem checkR (n : Nat) (hn : 5000 < n) (t : Tx) (sz : Int) (fs : List Int) (hf : fs.length ≤ 1000) (y : Int × List Tx) : loopF (F36_l71 n t sz fs y) n 0 = if fatesOk fs then loopF (F36_l89 n t sz fs y) n (0, 0, 0, 0) else some (0, [], 0, 0, 1) := by
  refine loopF_eq (F36_l71 n t sz fs y) (fun _ => if fatesOk fs then loopF (F36_l89 n t sz fs y) n (0, 0, 0, 0) else some (0, [], 0, 0, 1)) (fun x => ∃ k : Nat, x = (k : Int) ∧ k ≤ fs.length ∧ ∀ j, j < k → 1 ≤ fs.getD j 0 ∧ fs.getD j 0 ≤ 5) (fun x => fs.length - x.toNat) ?_ n 0 ⟨0, rfl, by omega, fun j h => by omega⟩ (by simp; omega)
  rintro kk x ⟨k, rfl, hk, hall⟩ ih
  have e87 : ∀ f, F67 n f = some (decide (1 ≤ f ∧ f ≤ 5)) := fun f => by
    unfold F67
    rw [betC]; rfl
  simp only [F36_l71, Int.toNat_natCast, e87, Option.bind_some]
  by_cases hka : k < fs.length
  · rw [decide_eq_true (show (k : Int) < ((fs.length : Nat) : Int) by omega), inb_true (show (0 : Int) ≤ k by omega) (show (k : Int) < (fs.length : Nat) by omega), w64 (n := (k : Int) + 1) (by omega) (by omega)]
    simp only [cond_true]
    by_cases q1 : 1 ≤ fs.getD k 0 ∧ fs.getD k 0 ≤ 5
    · rw [decide_eq_true q1]
      exact ih _ ⟨k + 1, by omega, by omega, fun j hj => by
        rcases Nat.lt_succ_iff_lt_or_eq.1 hj with h | h
        · exact hall j h
        · subst h; exact q1⟩ (by omega)
    · rw [decide_eq_false q1, if_neg (fun hh => q1 (hh k hka))]; rfl
  · obtain rfl : k = fs.length := by omega
    rw [decide_eq_false (by omega), if_pos (show fatesOk fs from hall)]; rfl
/-- how many of the first k were taken whole -/
def toldN (fs : List Int) (k : Nat) : Nat := ((fs.take k).filter (· == 1)).length
theorem toldN_succ (fs : List Int) (k : Nat) (h : k < fs.length) : toldN fs (k + 1) = toldN fs k + (if fs.getD k 0 = 1 then 1 else 0) := by
  unfold toldN
  rw [List.take_add_one, List.getElem?_eq_getElem h, List.getD_eq_getElem?_getD, List.getElem?_eq_getElem h, List.filter_append, List.length_append]
  simp only [Option.toList_some, Option.getD_some, List.filter_cons, List.filter_nil]
  by_cases e : fs[k] = 1 <;> simp [e]
def usedT (L : Nat) (fs : List Int) (r : Int × Tx × Int × Int × Int) : Prop := 0 ≤ r.2.2.2.1 ∧ r.2.2.2.1 ≤ ((fs.length : Nat) : Int) ∧ r.2.2.2.2 = 0 ∧ ∀ j : Nat, (j : Int) < r.2.2.2.1 → toldN fs j < L
/-- the loops, side by side -/
theorem lockC (n : Nat) (hn : 5000 < n) (t : Tx) (ht : t.length ≤ 4096) (size : Nat) (h1 : 1 ≤ size) (h2 : size ≤ 64) (hl : (ps size t).length ≤ 200) (fs : List Int) (hf : fs.length ≤ 1000) (hok : fatesOk fs) :
    ∃ r r', loopF (F28_l41 n fs (0, ps size t)) n (0, 0, 0, 0, ps size t, []) = some r ∧ loopF (F36_l89 n t (size : Int) fs (0, ps size t)) n (0, 0, 0, 0) = some r' ∧ (r = r' ∧ usedT (ps size t).length fs r) := by
  have hm : 1 ≤ (ps size t).length := by rw [ps_len h1 t.length t (Nat.le_refl _)]; exact Nat.le_add_left 1 _
  have pe := fun told got ho s w code used => progEnd n hn t ht size h1 h2 hl told got ho s w code used
  have de := fun told got ho hg code used => docEnd' n t ht size h2 told got ho hg code used
  refine loopF_rel (F28_l41 n fs (0, ps size t)) (F36_l89 n t (size : Int) fs (0, ps size t))
    (fun d d' => ∃ k told got row : Nat, d = ((row : Int), (k : Int), par told, par got, (ps size t).drop told, (ps size t).take got) ∧ d' = ((told : Int), (got : Int), (row : Int), (k : Int)) ∧ k ≤ fs.length ∧ told ≤ got ∧ got ≤ told + 1 ∧ told < (ps size t).length ∧ row ≤ 2 ∧ told = toldN fs k ∧ ∀ j, j ≤ k → toldN fs j < (ps size t).length)
    (fun r r' => r = r' ∧ usedT (ps size t).length fs r) (fun d => fs.length - d.2.1.toNat) ?_ n n _ _ ⟨0, 0, 0, 0, rfl, rfl, by omega, by omega, by omega, hm, by omega, rfl, fun j hj => by rw [show j = 0 by omega]; exact hm⟩ (by simp; omega) (by simp; omega)
  rintro kk kk' d d' ⟨k, told, got, row, rfl, rfl, hk, g1, g2, g3, hrow, g4, g5⟩ ih
  have uo : ∀ {a b : Nat} {c : Int}, k < fs.length → usedT (ps size t).length fs (endR t size a b c ((k + 1 : Nat) : Int)) := fun h => ⟨Int.natCast_nonneg _, by show ((k + 1 : Nat) : Int) ≤ _; omega, rfl, fun j hj => g5 j (by have hj2 : (j : Int) < ((k + 1 : Nat) : Int) := hj; omega)⟩
  simp only [F28_l41, F36_l89, Int.toNat_natCast]
  by_cases hka : k < fs.length
  · have hfk := hok k hka
    rw [decide_eq_true (show (k : Int) < ((fs.length : Nat) : Int) by omega), inb_true (show (0 : Int) ≤ k by omega) (show (k : Int) < (fs.length : Nat) by omega)]
    simp -implicitDefEqProofs only [cond_true]
    unfold F28_j44 F36_j92
    simp only [Int.toNat_natCast]
    have nx := toldN_succ fs k hka
    have nj : ∀ j, j ≤ k + 1 → toldN fs (k + 1) < (ps size t).length → toldN fs j < (ps size t).length := fun j hj h => by
      rcases Nat.lt_or_ge j (k + 1) with h1 | h1
      · exact g5 j (by omega)
      · obtain rfl : j = k + 1 := by omega
        exact h
    generalize fs.getD k 0 = f at *
    have nx1 : f = 1 → told + 1 < (ps size t).length → (told + 1 = toldN fs (k + 1) ∧ ∀ j, j ≤ k + 1 → toldN fs j < (ps size t).length) := fun e hL => by
      rw [if_pos e] at nx
      exact ⟨by omega, fun j hj => nj j hj (by omega)⟩
    have nx0 : f ≠ 1 → (told = toldN fs (k + 1) ∧ ∀ j, j ≤ k + 1 → toldN fs j < (ps size t).length) := fun e => by
      rw [if_neg e] at nx
      exact ⟨by omega, fun j hj => nj j hj (by omega)⟩
    clear nx nj
    have wk : IntKind.wrap .i64 ((k : Int) + 1) = ((k + 1 : Nat) : Int) := by rw [w64 (by omega) (by omega)]; omega
    have wt : IntKind.wrap .i64 ((told : Int) + 1) = ((told + 1 : Nat) : Int) := by rw [w64 (by omega) (by omega)]; omega
    have wr : IntKind.wrap .i64 ((row : Int) + 1) = ((row + 1 : Nat) : Int) := by rw [w64 (by omega) (by omega)]; omega
    rw [wk, wt, wr, stepC n (ps size t) hl told got g1 g2 g3 (by omega) f hfk]
    have hf5 : f = 1 ∨ f = 2 ∨ f = 3 ∨ f = 4 ∨ f = 5 := by omega
    have ld : ∀ j, ((ps size t).drop j).length = (ps size t).length - j := fun j => List.length_drop
    rcases hf5 with rfl | rfl | rfl | rfl | rfl
    · by_cases q : told + 1 = (ps size t).length
      · refine ⟨endR t size (told + 1) (told + 1) 0 ((k + 1 : Nat) : Int), endR t size (told + 1) (told + 1) 0 ((k + 1 : Nat) : Int), ?_, ?_, rfl, uo hka⟩
        · show F28_j43 n kk (0, ps size t) (k : Int) (par (told + 1), par (told + 1), 0, (ps size t).drop (told + 1), (ps size t).take (told + 1)) 0 = _
          unfold F28_j43
          simp only
          rw [ld, show (((((ps size t).length - (told + 1) : Nat)) : Int) == 0) = true by rw [beq_iff_eq]; omega, wk]
          exact pe (told + 1) (told + 1) (by omega) 0 0 0 _
        · show (bif ((told + 1 : Nat) : Int) == (((ps size t).length : Nat) : Int) then F36_j91 n kk' t (size : Int) (k : Int) (((told + 1 : Nat) : Int), ((told + 1 : Nat) : Int), 0, 0) else F36_j91 n kk' t (size : Int) (k : Int) (((told + 1 : Nat) : Int), ((told + 1 : Nat) : Int), 0, 10)) = _
          rw [show (((told + 1 : Nat) : Int) == (((ps size t).length : Nat) : Int)) = true by rw [beq_iff_eq]; omega]
          unfold F36_j91
          simp only
          rw [wk]
          exact de (told + 1) (told + 1) (by omega) (by omega) 0 _
      · obtain ⟨r, r', e1, e2, e3⟩ := ih (0, ((k + 1 : Nat) : Int), par (told + 1), par (told + 1), (ps size t).drop (told + 1), (ps size t).take (told + 1)) (((told + 1 : Nat) : Int), ((told + 1 : Nat) : Int), 0, ((k + 1 : Nat) : Int)) ⟨k + 1, told + 1, told + 1, 0, rfl, rfl, by omega, by omega, by omega, by omega, by omega, nx1 rfl (by omega)⟩ (by simp only [Int.toNat_natCast]; omega)
        refine ⟨r, r', ?_, ?_, e3⟩
        · show F28_j43 n kk (0, ps size t) (k : Int) (par (told + 1), par (told + 1), 0, (ps size t).drop (told + 1), (ps size t).take (told + 1)) 0 = _
          unfold F28_j43
          simp only
          rw [ld, show (((((ps size t).length - (told + 1) : Nat)) : Int) == 0) = false by rw [beq_eq_false_iff_ne]; omega, wk]
          exact e1
        · show (bif ((told + 1 : Nat) : Int) == (((ps size t).length : Nat) : Int) then F36_j91 n kk' t (size : Int) (k : Int) (((told + 1 : Nat) : Int), ((told + 1 : Nat) : Int), 0, 0) else F36_j91 n kk' t (size : Int) (k : Int) (((told + 1 : Nat) : Int), ((told + 1 : Nat) : Int), 0, 10)) = _
          rw [show (((told + 1 : Nat) : Int) == (((ps size t).length : Nat) : Int)) = false by rw [beq_eq_false_iff_ne]; omega]
          unfold F36_j91
          simp only
          rw [wk]
          exact e2
    · -- lost
      have pj : ∀ (R : Int × Tx × Int × Int × Int), (if row + 1 = 3 then some (endR t size told got 9 ((k + 1 : Nat) : Int)) else kk (((row + 1 : Nat) : Int), ((k + 1 : Nat) : Int), par told, par got, (ps size t).drop told, (ps size t).take got)) = some R → F28_j43 n kk (0, ps size t) (k : Int) (par told, par got, 0, (ps size t).drop told, (ps size t).take got) ((row + 1 : Nat) : Int) = some R := fun R hR => by
        unfold F28_j43
        simp only
        rw [ld, show (((((ps size t).length - told : Nat)) : Int) == 0) = false by rw [beq_eq_false_iff_ne]; omega, wk]
        simp only [cond_false]
        by_cases q : row + 1 = 3
        · rw [if_pos q] at hR
          rw [show (((row + 1 : Nat) : Int) == 3) = true by rw [beq_iff_eq]; omega, ← hR]
          exact pe told got (by omega) 0 0 9 _
        · rw [if_neg q] at hR
          rw [show (((row + 1 : Nat) : Int) == 3) = false by rw [beq_eq_false_iff_ne]; omega]
          exact hR
      by_cases q : row + 1 = 3
      · refine ⟨_, endR t size told got 9 ((k + 1 : Nat) : Int), pj (endR t size told got 9 ((k + 1 : Nat) : Int)) (by rw [if_pos q]), ?_, rfl, uo hka⟩
        show (bif ((row + 1 : Nat) : Int) == 3 then F36_j91 n kk' t (size : Int) (k : Int) ((told : Int), (got : Int), ((row + 1 : Nat) : Int), 9) else F36_j91 n kk' t (size : Int) (k : Int) ((told : Int), (got : Int), ((row + 1 : Nat) : Int), 10)) = _
        rw [show (((row + 1 : Nat) : Int) == 3) = true by rw [beq_iff_eq]; omega]
        unfold F36_j91
        simp only
        rw [wk]
        exact de told got (by omega) (by omega) 9 _
      · obtain ⟨r, r', e1, e2, e3⟩ := ih (((row + 1 : Nat) : Int), ((k + 1 : Nat) : Int), par told, par got, (ps size t).drop told, (ps size t).take got) ((told : Int), (got : Int), ((row + 1 : Nat) : Int), ((k + 1 : Nat) : Int)) ⟨k + 1, told, got, row + 1, rfl, rfl, by omega, g1, g2, g3, by omega, nx0 (by decide)⟩ (by simp only [Int.toNat_natCast]; omega)
        refine ⟨r, r', pj r (by rw [if_neg q]; exact e1), ?_, e3⟩
        show (bif ((row + 1 : Nat) : Int) == 3 then F36_j91 n kk' t (size : Int) (k : Int) ((told : Int), (got : Int), ((row + 1 : Nat) : Int), 9) else F36_j91 n kk' t (size : Int) (k : Int) ((told : Int), (got : Int), ((row + 1 : Nat) : Int), 10)) = _
        rw [show (((row + 1 : Nat) : Int) == 3) = false by rw [beq_eq_false_iff_ne]; omega]
        unfold F36_j91
        simp only
        rw [wk]
        exact e2
    · -- deaf
      have pj : ∀ (R : Int × Tx × Int × Int × Int), (if row + 1 = 3 then some (endR t size told (told + 1) 9 ((k + 1 : Nat) : Int)) else kk (((row + 1 : Nat) : Int), ((k + 1 : Nat) : Int), par told, par (told + 1), (ps size t).drop told, (ps size t).take (told + 1))) = some R → F28_j43 n kk (0, ps size t) (k : Int) (par told, par (told + 1), 0, (ps size t).drop told, (ps size t).take (told + 1)) ((row + 1 : Nat) : Int) = some R := fun R hR => by
        unfold F28_j43
        simp only
        rw [ld, show (((((ps size t).length - told : Nat)) : Int) == 0) = false by rw [beq_eq_false_iff_ne]; omega, wk]
        simp only [cond_false]
        by_cases q : row + 1 = 3
        · rw [if_pos q] at hR
          rw [show (((row + 1 : Nat) : Int) == 3) = true by rw [beq_iff_eq]; omega, ← hR]
          exact pe told (told + 1) (by omega) 0 0 9 _
        · rw [if_neg q] at hR
          rw [show (((row + 1 : Nat) : Int) == 3) = false by rw [beq_eq_false_iff_ne]; omega]
          exact hR
      by_cases q : row + 1 = 3
      · refine ⟨_, endR t size told (told + 1) 9 ((k + 1 : Nat) : Int), pj (endR t size told (told + 1) 9 ((k + 1 : Nat) : Int)) (by rw [if_pos q]), ?_, rfl, uo hka⟩
        show (bif ((row + 1 : Nat) : Int) == 3 then F36_j91 n kk' t (size : Int) (k : Int) ((told : Int), ((told + 1 : Nat) : Int), ((row + 1 : Nat) : Int), 9) else F36_j91 n kk' t (size : Int) (k : Int) ((told : Int), ((told + 1 : Nat) : Int), ((row + 1 : Nat) : Int), 10)) = _
        rw [show (((row + 1 : Nat) : Int) == 3) = true by rw [beq_iff_eq]; omega]
        unfold F36_j91
        simp only
        rw [wk]
        exact de told (told + 1) (by omega) (by omega) 9 _
      · obtain ⟨r, r', e1, e2, e3⟩ := ih (((row + 1 : Nat) : Int), ((k + 1 : Nat) : Int), par told, par (told + 1), (ps size t).drop told, (ps size t).take (told + 1)) ((told : Int), ((told + 1 : Nat) : Int), ((row + 1 : Nat) : Int), ((k + 1 : Nat) : Int)) ⟨k + 1, told, told + 1, row + 1, rfl, rfl, by omega, by omega, by omega, g3, by omega, nx0 (by decide)⟩ (by simp only [Int.toNat_natCast]; omega)
        refine ⟨r, r', pj r (by rw [if_neg q]; exact e1), ?_, e3⟩
        show (bif ((row + 1 : Nat) : Int) == 3 then F36_j91 n kk' t (size : Int) (k : Int) ((told : Int), ((told + 1 : Nat) : Int), ((row + 1 : Nat) : Int), 9) else F36_j91 n kk' t (size : Int) (k : Int) ((told : Int), ((told + 1 : Nat) : Int), ((row + 1 : Nat) : Int), 10)) = _
        rw [show (((row + 1 : Nat) : Int) == 3) = false by rw [beq_eq_false_iff_ne]; omega]
        unfold F36_j91
        simp only
        rw [wk]
        exact e2
    · -- busy
      obtain ⟨r, r', e1, e2, e3⟩ := ih ((row : Int), ((k + 1 : Nat) : Int), par told, par got, (ps size t).drop told, (ps size t).take got) ((told : Int), (got : Int), (row : Int), ((k + 1 : Nat) : Int)) ⟨k + 1, told, got, row, rfl, rfl, by omega, g1, g2, g3, hrow, nx0 (by decide)⟩ (by simp only [Int.toNat_natCast]; omega)
      refine ⟨r, r', ?_, ?_, e3⟩
      · show F28_j43 n kk (0, ps size t) (k : Int) (par told, par got, 0, (ps size t).drop told, (ps size t).take got) (row : Int) = _
        unfold F28_j43
        simp only
        rw [ld, show (((((ps size t).length - told : Nat)) : Int) == 0) = false by rw [beq_eq_false_iff_ne]; omega, wk, show ((row : Int) == 3) = false by rw [beq_eq_false_iff_ne]; omega]
        exact e1
      · show F36_j91 n kk' t (size : Int) (k : Int) ((told : Int), (got : Int), (row : Int), 10) = _
        unfold F36_j91
        simp only
        rw [wk]
        exact e2
    · refine ⟨endR t size told got 8 ((k + 1 : Nat) : Int), endR t size told got 8 ((k + 1 : Nat) : Int), ?_, ?_, rfl, uo hka⟩
      · exact pe told got (by omega) (par told) (par got) 8 _
      · show F36_j91 n kk' t (size : Int) (k : Int) ((told : Int), (got : Int), (row : Int), 8) = _
        unfold F36_j91
        simp only
        rw [wk]
        exact de told got (by omega) (by omega) 8 _
  · obtain rfl : k = fs.length := by omega
    rw [decide_eq_false (show ¬ ((fs.length : Nat) : Int) < ((fs.length : Nat) : Int) by omega)]
    exact ⟨_, _, pe told got (by omega) (par told) (par got) 10 _, de told got (by omega) (by omega) 10 _, rfl, ⟨Int.natCast_nonneg _, Int.le_refl _, rfl, fun j hj => g5 j (by have hj2 : (j : Int) < ((fs.length : Nat) : Int) := hj; omega)⟩⟩
/-- both carry the same -/
theorem carryT (n : Nat) (hn : 6000 < n) (t : Tx) (size : Int) (fs : List Int) : ∃ r, F28 n t size fs = some r ∧ F36 n t size fs = some r ∧ (r.2.2.2.2 = 0 → ∃ z : Nat, size = (z : Int) ∧ 1 ≤ z ∧ z ≤ 64 ∧ t.length ≤ 4096 ∧ (ps z t).length ≤ 200 ∧ fs.length ≤ 1000 ∧ fatesOk fs ∧ usedT (ps z t).length fs r) := by
  unfold F28 F36 F60
  by_cases hs : 1 ≤ size ∧ size ≤ 64
  · obtain ⟨z, rfl⟩ : ∃ z : Nat, size = (z : Int) := ⟨size.toNat, by omega⟩
    by_cases ht : t.length ≤ 4096
    · have e1 : F29 n t (z : Int) = some (0, ps z t) := by
        unfold F29
        rw [decide_eq_false (show ¬ (z : Int) < 1 by omega), decide_eq_false (show ¬ (z : Int) > 64 by omega), decide_eq_false (show ¬ ((t.length : Nat) : Int) > 4096 by omega)]
        exact t60 n (by omega) t z (by omega) ht
      have e2 : F37 n t (z : Int) = some (0, ps z t) := t61 n (by omega) t z (by omega) (by omega) ht
      rw [e1, e2]
      simp -implicitDefEqProofs only [Option.bind_some, bne_self_eq_false, cond_false]
      by_cases hl : (ps z t).length ≤ 200
      · rw [decide_eq_false (show ¬ (((ps z t).length : Nat) : Int) > 200 by omega)]
        by_cases hf : fs.length ≤ 1000
        · rw [decide_eq_false (show ¬ ((fs.length : Nat) : Int) > 1000 by omega)]
          simp -implicitDefEqProofs only [cond_false]
          rw [checkP n (by omega) fs hf, checkR n (by omega) t (z : Int) fs hf]
          by_cases hok : fatesOk fs
          · rw [if_pos hok, if_pos hok]
            simp -implicitDefEqProofs only [Option.bind_some, bne_self_eq_false, cond_false]
            have e3 : F30 n (ps z t) = some (0, 0, 0, ps z t) := by
              unfold F30
              rw [decide_eq_false (show ¬ (((ps z t).length : Nat) : Int) > 200 by omega), cloneC n _ (by omega)]; rfl
            rw [e3]
            obtain ⟨r, r', a1, a2, rfl, a3⟩ := lockC n (by omega) t ht z (by omega) (by omega) hl fs hf hok
            exact ⟨r, a1, a2, fun _ => ⟨z, rfl, by omega, by omega, ht, hl, hf, hok, a3⟩⟩
          · rw [if_neg hok, if_neg hok]; exact ⟨_, rfl, rfl, fun h => absurd h (by decide)⟩
        · rw [decide_eq_true (show ((fs.length : Nat) : Int) > 1000 by omega)]; exact ⟨_, rfl, rfl, fun h => absurd h (by decide)⟩
      · rw [decide_eq_true (show (((ps z t).length : Nat) : Int) > 200 by omega)]
        exact ⟨_, rfl, rfl, fun h => absurd h (by decide)⟩
    · have e1 : F29 n t (z : Int) = some (2, []) := by
        unfold F29
        rw [decide_eq_false (show ¬ (z : Int) < 1 by omega), decide_eq_false (show ¬ (z : Int) > 64 by omega), decide_eq_true (show ((t.length : Nat) : Int) > 4096 by omega)]; rfl
      have e2 : F37 n t (z : Int) = some (2, []) := by
        unfold F37
        rw [betC, decide_eq_true hs, Option.bind_some, decide_eq_true (show ((t.length : Nat) : Int) > 4096 by omega)]; rfl
      rw [e1, e2]; exact ⟨_, rfl, rfl, fun h => absurd h (by decide)⟩
  · have e1 : F29 n t size = some (1, []) := by
      unfold F29
      by_cases q : size < 1
      · rw [decide_eq_true q]; rfl
      · rw [decide_eq_false q, decide_eq_true (show size > 64 by omega)]; rfl
    have e2 : F37 n t size = some (1, []) := by
      unfold F37
      rw [betC, decide_eq_false hs]; rfl
    rw [e1, e2]; exact ⟨_, rfl, rfl, fun h => absurd h (by decide)⟩
end Go.Proofs.YtekmnhplhoejdaaDoor.Ca
