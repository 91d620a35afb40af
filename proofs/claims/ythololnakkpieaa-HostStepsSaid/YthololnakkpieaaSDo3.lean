/- The law SlotsDo, in plain Lean (third part: configure, and the law). -/
import Derived.Test.YthololnakkpieaaSDo2
namespace Go.Proofs.Ythololnakkpieaa
open Go Go.RowKit
open Classical
set_option linter.unusedVariables false

theorem confP (n : Nat) (hn : 300 < n) (b : Slots) (hl : b.length = 9) (c : Nat) (hc : c < 9) (l1 : (sl b c).2.2.1.length = 32) (l2 : (sl b c).2.2.2.length = 32) (set : Int) (h0 : 0 ≤ set) (h1 : set < 4294967296) :
    ∃ r, loopF (F49_l84 n b (c : Int) set) n (2, b) = some r ∧ ∃ E M, r = (b.set c (if set = 0 then 2 else 3, (sl b c).2.1, E, M), 1, (c : Int)) ∧ (∀ k, k < 32 → E.getD k 0 = if k < 2 then en (sl b c) k else endC (sl b c) set k) ∧ (∀ k, k < 32 → M.getD k 0 = if k < 2 then mk' (sl b c) k else markC (sl b c) set k) ∧ E.length = 32 ∧ M.length = 32 := by
  refine loopF_post (F49_l84 n b (c : Int) set) (fun d => ∃ (k : Nat) (E M : List Int), d = ((k : Int), b.set c ((sl b c).1, (sl b c).2.1, E, M)) ∧ 2 ≤ k ∧ k ≤ 32 ∧ E.length = 32 ∧ M.length = 32 ∧ (∀ j, j < 32 → E.getD j 0 = if j < 2 ∨ k ≤ j then en (sl b c) j else endC (sl b c) set j) ∧ (∀ j, j < 32 → M.getD j 0 = if j < 2 ∨ k ≤ j then mk' (sl b c) j else markC (sl b c) set j))
    (fun _ r => ∃ E M, r = (b.set c (if set = 0 then 2 else 3, (sl b c).2.1, E, M), 1, (c : Int)) ∧ (∀ k, k < 32 → E.getD k 0 = if k < 2 then en (sl b c) k else endC (sl b c) set k) ∧ (∀ k, k < 32 → M.getD k 0 = if k < 2 then mk' (sl b c) k else markC (sl b c) set k) ∧ E.length = 32 ∧ M.length = 32)
    (fun d => 32 - d.1.toNat) ?_ n (2, b) ⟨2, (sl b c).2.2.1, (sl b c).2.2.2, ?_, by omega, by omega, l1, l2, fun j hj => by rw [if_pos (by omega)]; rfl, fun j hj => by rw [if_pos (by omega)]; rfl⟩ (by simp; omega)
  · rintro kk d ⟨k, E, M, rfl, hk2, hk, le, lm, hE, hM⟩ ih
    have e : ∀ A, (b.set c A).getD c zeroS = A := fun A => slD b c A (by omega)
    simp only [F49_l84, Int.toNat_natCast, e, List.set_set]
    by_cases hka : k < 32
    · rw [decide_eq_true (show (k : Int) < 32 by omega), decide_eq_true (show 0 ≤ IntKind.wrap .u64 (k : Int) by rw [u64w]; omega), bitP set h0 h1 k hka, inb_true (show (0 : Int) ≤ k by omega) (show (k : Int) < (32 : Nat) by omega), w64 (n := (k : Int) + 1) (by omega) (by omega)]
      simp only [cond_true]
      cases hb : bitD set k
      · simp only [Bool.not_false, cond_true]
        refine ih _ ⟨k + 1, E.set k 0, M.set k 0, rfl, by omega, by omega, by simpa using le, by simpa using lm, fun j hj => ?_, fun j hj => ?_⟩ (by simp only [Int.toNat_natCast]; omega)
        · rw [gset E k j 0 (by omega)]
          by_cases q : k = j
          · subst q
            rw [if_pos rfl, if_neg (by omega)]; unfold endC; rw [hb]; rfl
          · rw [if_neg q, hE j hj]
            by_cases q2 : j < 2 ∨ k ≤ j
            · rw [if_pos q2, if_pos (by omega)]
            · rw [if_neg q2, if_neg (by omega)]
        · rw [gset M k j 0 (by omega)]
          by_cases q : k = j
          · subst q
            rw [if_pos rfl, if_neg (by omega)]; unfold markC; rw [hb]; rfl
          · rw [if_neg q, hM j hj]
            by_cases q2 : j < 2 ∨ k ≤ j
            · rw [if_pos q2, if_pos (by omega)]
            · rw [if_neg q2, if_neg (by omega)]
      · simp only [Bool.not_true, cond_false]
        have hEk := hE k hka
        rw [if_pos (by omega)] at hEk
        rw [hEk]
        have hM' : ∀ j, j < 32 → M.getD j 0 = if j < 2 ∨ k + 1 ≤ j then mk' (sl b c) j else markC (sl b c) set j := fun j hj => by
          rw [hM j hj]
          by_cases q : k = j
          · subst q
            rw [if_pos (by omega), if_neg (by omega)]; unfold markC; rw [hb]; rfl
          · by_cases q2 : j < 2 ∨ k ≤ j
            · rw [if_pos q2, if_pos (by omega)]
            · rw [if_neg q2, if_neg (by omega)]
        by_cases q0 : en (sl b c) k = 0
        · rw [show (en (sl b c) k == 0) = true by simpa using q0]
          refine ih _ ⟨k + 1, E.set k 1, M, rfl, by omega, by omega, by simpa using le, lm, fun j hj => ?_, hM'⟩ (by simp only [Int.toNat_natCast]; omega)
          rw [gset E k j 1 (by omega)]
          by_cases q : k = j
          · subst q
            rw [if_pos rfl, if_neg (by omega)]; unfold endC; rw [hb, q0]; rfl
          · rw [if_neg q, hE j hj]
            by_cases q2 : j < 2 ∨ k ≤ j
            · rw [if_pos q2, if_pos (by omega)]
            · rw [if_neg q2, if_neg (by omega)]
        · rw [show (en (sl b c) k == 0) = false by simpa using q0]
          refine ih _ ⟨k + 1, E, M, rfl, by omega, by omega, le, lm, fun j hj => ?_, hM'⟩ (by simp only [Int.toNat_natCast]; omega)
          rw [hE j hj]
          by_cases q : k = j
          · subst q
            rw [if_pos (by omega), if_neg (by omega)]; unfold endC; rw [hb, if_neg q0]; rfl
          · by_cases q2 : j < 2 ∨ k ≤ j
            · rw [if_pos q2, if_pos (by omega)]
            · rw [if_neg q2, if_neg (by omega)]
    · obtain rfl : k = 32 := by omega
      rw [decide_eq_false (by omega)]
      simp only [cond_false, j71, pick, if_true]
      have fE : ∀ k, k < 32 → E.getD k 0 = if k < 2 then en (sl b c) k else endC (sl b c) set k := fun k hk => by
        rw [hE k hk]
        by_cases q : k < 2
        · rw [if_pos q, if_pos (by omega)]
        · rw [if_neg q, if_neg (by omega)]
      have fM : ∀ k, k < 32 → M.getD k 0 = if k < 2 then mk' (sl b c) k else markC (sl b c) set k := fun k hk => by
        rw [hM k hk]
        by_cases q : k < 2
        · rw [if_pos q, if_pos (by omega)]
        · rw [if_neg q, if_neg (by omega)]
      by_cases q : set = 0
      · rw [show (set == 0) = true by simpa using q]
        exact ⟨_, rfl, E, M, by rw [if_pos q], fE, fM, le, lm⟩
      · rw [show (set == 0) = false by simpa using q]
        exact ⟨_, rfl, E, M, by rw [if_neg q], fE, fM, le, lm⟩
  · congr 1
    show b = b.set c (b.getD c zeroS)
    rw [List.getD_eq_getElem?_getD, List.getElem?_eq_getElem (by omega : c < b.length)]
    simp
theorem confR (n : Nat) (hn : 300 < n) (s : Slot) (set : Int) (h0 : 0 ≤ set) (h1 : set < 4294967296) (hs : ∀ k, k < 32 → 0 ≤ en s k) :
    ∃ r, loopF (F97_l2 n s.2.1 s.2.2.1 s.2.2.2 set) n (2, 2, (List.replicate 32 (0 : Int)).set 1 (en s 1), (List.replicate 32 (0 : Int)).set 1 (mk' s 1)) = some r ∧ ∃ st E M, r = (st, s.2.1, E, M, 1) ∧ (st = if ∃ k, 2 ≤ k ∧ k < 32 ∧ bitD set k = true then 3 else 2) ∧ (∀ k, k < 32 → E.getD k 0 = if k < 2 then (if k = 1 then en s 1 else 0) else endC s set k) ∧ (∀ k, k < 32 → M.getD k 0 = if k < 2 then (if k = 1 then mk' s 1 else 0) else markC s set k) ∧ E.length = 32 ∧ M.length = 32 := by
  refine loopF_post (F97_l2 n s.2.1 s.2.2.1 s.2.2.2 set) (fun d => ∃ (k : Nat) (st : Int) (E M : List Int), d = ((k : Int), st, E, M) ∧ 2 ≤ k ∧ k ≤ 32 ∧ E.length = 32 ∧ M.length = 32 ∧ (st = if ∃ j, 2 ≤ j ∧ j < k ∧ bitD set j = true then 3 else 2) ∧ (∀ j, j < 32 → E.getD j 0 = if j < 2 then (if j = 1 then en s 1 else 0) else if j < k then endC s set j else 0) ∧ (∀ j, j < 32 → M.getD j 0 = if j < 2 then (if j = 1 then mk' s 1 else 0) else if j < k then markC s set j else 0))
    (fun _ r => ∃ st E M, r = (st, s.2.1, E, M, 1) ∧ (st = if ∃ k, 2 ≤ k ∧ k < 32 ∧ bitD set k = true then 3 else 2) ∧ (∀ k, k < 32 → E.getD k 0 = if k < 2 then (if k = 1 then en s 1 else 0) else endC s set k) ∧ (∀ k, k < 32 → M.getD k 0 = if k < 2 then (if k = 1 then mk' s 1 else 0) else markC s set k) ∧ E.length = 32 ∧ M.length = 32)
    (fun d => 32 - d.1.toNat) ?_ n _ ⟨2, 2, _, _, rfl, by omega, by omega, rfl, rfl, ?_, fun j hj => ?_, fun j hj => ?_⟩ (by simp; omega)
  · rintro kk d ⟨k, st, E, M, rfl, hk2, hk, le, lm, hst, hE, hM⟩ ih
    simp only [F97_l2, Int.toNat_natCast]
    by_cases hka : k < 32
    · rw [decide_eq_true (show (k : Int) < 32 by omega), two n (by omega) k (by omega)]
      have hp : ((2 ^ k : Nat) : Int) ≠ 0 := by
        have : 0 < 2 ^ k := Nat.pow_pos (by omega)
        omega
      simp only [cond_true, Option.bind_some]
      rw [show (((2 ^ k : Nat) : Int) != 0) = true by simpa using hp, bitR set h0 h1 k hka, inb_true (show (0 : Int) ≤ k by omega) (show (k : Int) < (32 : Nat) by omega), w64 (n := (k : Int) + 1) (by omega) (by omega)]
      simp only [cond_true]
      cases hb : bitD set k
      · simp only [cond_false]
        refine ih _ ⟨k + 1, st, E, M, rfl, by omega, by omega, le, lm, ?_, fun j hj => ?_, fun j hj => ?_⟩ (by simp only [Int.toNat_natCast]; omega)
        · rw [hst]
          by_cases q : ∃ j, 2 ≤ j ∧ j < k ∧ bitD set j = true
          · obtain ⟨j, a1, a2, a3⟩ := q
            rw [if_pos ⟨j, a1, a2, a3⟩, if_pos ⟨j, a1, by omega, a3⟩]
          · rw [if_neg q, if_neg]
            rintro ⟨j, a1, a2, a3⟩
            rcases Nat.lt_succ_iff_lt_or_eq.1 a2 with h | h
            · exact q ⟨j, a1, h, a3⟩
            · subst h; rw [hb] at a3; cases a3
        · rw [hE j hj]
          by_cases q1 : j < 2
          · rw [if_pos q1, if_pos q1]
          · rw [if_neg q1, if_neg q1]
            by_cases q : k = j
            · subst q
              rw [if_neg (by omega), if_pos (by omega)]; unfold endC; rw [hb]; rfl
            · by_cases q2 : j < k
              · rw [if_pos q2, if_pos (by omega)]
              · rw [if_neg q2, if_neg (by omega)]
        · rw [hM j hj]
          by_cases q1 : j < 2
          · rw [if_pos q1, if_pos q1]
          · rw [if_neg q1, if_neg q1]
            by_cases q : k = j
            · subst q
              rw [if_neg (by omega), if_pos (by omega)]; unfold markC; rw [hb]; rfl
            · by_cases q2 : j < k
              · rw [if_pos q2, if_pos (by omega)]
              · rw [if_neg q2, if_neg (by omega)]
      · simp only [cond_true]
        refine ih _ ⟨k + 1, 3, _, _, rfl, by omega, by omega, by simpa using le, by simpa using lm, ?_, fun j hj => ?_, fun j hj => ?_⟩ (by simp only [Int.toNat_natCast]; omega)
        · rw [if_pos ⟨k, hk2, by omega, hb⟩]
        · rw [gset E k j _ (by omega)]
          by_cases q : k = j
          · subst q
            rw [if_pos rfl, if_neg (show ¬ k < 2 by omega), if_pos (show k < k + 1 by omega)]; unfold endC; rw [hb]
            have := hs k hka
            show (if en s k > 1 then en s k else 1) = if en s k = 0 then 1 else en s k
            by_cases q0 : en s k = 0
            · rw [if_pos q0, if_neg (by omega)]
            · rw [if_neg q0]
              by_cases q1 : en s k > 1
              · rw [if_pos q1]
              · rw [if_neg q1]; omega
          · rw [if_neg q, hE j hj]
            by_cases q1 : j < 2
            · rw [if_pos q1, if_pos q1]
            · rw [if_neg q1, if_neg q1]
              by_cases q2 : j < k
              · rw [if_pos q2, if_pos (by omega)]
              · rw [if_neg q2, if_neg (by omega)]
        · rw [gset M k j _ (by omega)]
          by_cases q : k = j
          · subst q
            rw [if_pos rfl, if_neg (by omega), if_pos (by omega)]; unfold markC; rw [hb]; rfl
          · rw [if_neg q, hM j hj]
            by_cases q1 : j < 2
            · rw [if_pos q1, if_pos q1]
            · rw [if_neg q1, if_neg q1]
              by_cases q2 : j < k
              · rw [if_pos q2, if_pos (by omega)]
              · rw [if_neg q2, if_neg (by omega)]
    · obtain rfl : k = 32 := by omega
      rw [decide_eq_false (by omega)]
      refine ⟨_, rfl, st, E, M, rfl, hst, fun j hj => ?_, fun j hj => ?_, le, lm⟩
      · rw [hE j hj, if_pos hj]
      · rw [hM j hj, if_pos hj]
  · rw [if_neg]
    rintro ⟨j, a1, a2, _⟩
    omega
  · rw [gset _ 1 j _ (by simp), rep0]
    by_cases q : j = 1
    · subst q; rfl
    · rw [if_neg (by omega), if_neg q]
      by_cases q1 : j < 2
      · rw [if_pos q1]
      · rw [if_neg q1, if_neg q1]
  · rw [gset _ 1 j _ (by simp), rep0]
    by_cases q : j = 1
    · subst q; rfl
    · rw [if_neg (by omega), if_neg q]
      by_cases q1 : j < 2
      · rw [if_pos q1]
      · rw [if_neg q1, if_neg q1]
end Go.Proofs.Ythololnakkpieaa
