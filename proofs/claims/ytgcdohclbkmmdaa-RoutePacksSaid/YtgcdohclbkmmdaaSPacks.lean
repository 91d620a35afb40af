/- The law RoutePacks, in plain Lean. -/
import Derived.Test.YtgcdohclbkmmdaaSMeets
import Derived.Test.YtgcdohclbkmmdaaAm26
namespace Go.Proofs.Ytgcdohclbkmmdaa
open Go Go.RowKit
set_option linter.unusedVariables false

def okP (l : List Int) : Prop := ∀ j, j < l.length → 1 ≤ l.getD j 0 ∧ l.getD j 0 ≤ 15
instance (l : List Int) : Decidable (okP l) := inferInstanceAs (Decidable (∀ j, j < l.length → 1 ≤ l.getD j 0 ∧ l.getD j 0 ≤ 15))
def pathE (l : List Int) : Int := if l.length = 0 then 1 else if 6 < l.length then 2 else if okP l then 0 else 1
theorem rp35 (n : Nat) (l : List Int) (hn : 10 < n) : F35 n l = some (pathE l) := by
  unfold F35 pathE
  by_cases h0 : l.length = 0
  · rw [if_pos h0, show (((l.length : Nat) : Int) == 0) = true by simp [h0]]; rfl
  rw [if_neg h0, show (((l.length : Nat) : Int) == 0) = false by simpa using h0]
  by_cases h6 : 6 < l.length
  · rw [if_pos h6, decide_eq_true (show ((l.length : Nat) : Int) > 6 by omega)]; rfl
  rw [if_neg h6, decide_eq_false (show ¬ ((l.length : Nat) : Int) > 6 by omega)]
  simp only [cond_false]
  obtain ⟨r, e, h⟩ := loopF_post (F35_l2 n l) (fun x => ∃ k : Nat, x = (k : Int) ∧ k ≤ l.length ∧ ∀ j, j < k → 1 ≤ l.getD j 0 ∧ l.getD j 0 ≤ 15) (fun _ r => r = if okP l then 0 else 1) (fun x => l.length - x.toNat) (by
    rintro kk x ⟨k, rfl, hk, hall⟩ ih
    simp only [F35_l2, Int.toNat_natCast]
    by_cases hka : k < l.length
    · rw [decide_eq_true (show (k : Int) < (l.length : Int) by omega), inb_true (show (0 : Int) ≤ k by omega) (show (k : Int) < l.length by omega)]
      simp only [cond_true]
      by_cases h1 : l.getD k 0 < 1
      · rw [decide_eq_true h1]
        exact ⟨_, rfl, by rw [if_neg (fun h => by have := h k hka; omega)]⟩
      · rw [decide_eq_false h1]
        by_cases h2 : l.getD k 0 > 15
        · rw [decide_eq_true h2]
          exact ⟨_, rfl, by rw [if_neg (fun h => by have := h k hka; omega)]⟩
        · rw [decide_eq_false h2, w64 (n := (k : Int) + 1) (by omega) (by omega)]
          exact ih ((k : Int) + 1) ⟨k + 1, by omega, by omega, fun j hj => by
            rcases Nat.lt_succ_iff_lt_or_eq.1 hj with h | h
            · exact hall j h
            · rw [h]; omega⟩ (by simp only [Int.toNat_natCast]; omega)
    · rw [decide_eq_false (show ¬ (k : Int) < (l.length : Int) by omega)]
      exact ⟨_, rfl, by rw [if_pos (show okP l from fun j hj => hall j (by omega))]⟩) n 0 ⟨0, rfl, by omega, fun j hj => by omega⟩ (by simp; omega)
  rw [e, h]
theorem rp86 (n : Nat) (l : List Int) (hn : 10 < n) (h0 : l.length ≠ 0) (h6 : l.length ≤ 6) : ∃ m, F86 n l = some m ∧ (m < 1 ↔ ∃ j, j < l.length ∧ l.getD j 0 < 1) := by
  unfold F86 F86_j3
  rw [decide_eq_false (show ¬ ((l.length : Nat) : Int) < 1 by omega), inb_true (by omega) (show (0 : Int) < l.length by omega)]
  simp only [cond_false, cond_true]
  exact loopF_post (F86_l4 n l) (fun d => ∃ k : Nat, d.2 = (k : Int) ∧ k ≤ l.length ∧ (d.1 < 1 ↔ ∃ j, j < k ∧ l.getD j 0 < 1)) (fun _ m => m < 1 ↔ ∃ j, j < l.length ∧ l.getD j 0 < 1) (fun d => l.length - d.2.toNat) (by
    rintro kk ⟨m, x⟩ ⟨k, e, hk, hm⟩ ih
    simp only at e hm
    subst e
    simp only [F86_l4, Int.toNat_natCast]
    by_cases hka : k < l.length
    · rw [decide_eq_true (show (k : Int) < (l.length : Int) by omega), inb_true (show (0 : Int) ≤ k by omega) (show (k : Int) < l.length by omega), w64 (n := (k : Int) + 1) (by omega) (by omega)]
      simp only [cond_true]
      refine ih (_, (k : Int) + 1) ⟨k + 1, by simp, by omega, ?_⟩ (by simp only [Int.toNat_natCast]; omega)
      simp only
      constructor
      · intro h
        split at h
        · exact ⟨k, by omega, h⟩
        · obtain ⟨j, hj, hl⟩ := hm.1 h
          exact ⟨j, by omega, hl⟩
      · rintro ⟨j, hj, hl⟩
        rcases Nat.lt_succ_iff_lt_or_eq.1 hj with h | h
        · have := hm.2 ⟨j, h, hl⟩
          split <;> omega
        · subst h
          split <;> omega
    · rw [decide_eq_false (show ¬ (k : Int) < (l.length : Int) by omega)]
      refine ⟨m, rfl, ?_⟩
      rw [hm, show k = l.length by omega]) n (l.getD 0 0, 1) ⟨1, rfl, by omega, by
        constructor
        · intro h; exact ⟨0, by omega, h⟩
        · rintro ⟨j, hj, hl⟩
          rw [show j = 0 by omega] at hl; exact hl⟩ (by simp; omega)
theorem rp87 (n : Nat) (l : List Int) (hn : 10 < n) (h0 : l.length ≠ 0) (h6 : l.length ≤ 6) : ∃ m, F87 n l = some m ∧ (m > 15 ↔ ∃ j, j < l.length ∧ l.getD j 0 > 15) := by
  unfold F87 F87_j3
  rw [decide_eq_false (show ¬ ((l.length : Nat) : Int) < 1 by omega), inb_true (by omega) (show (0 : Int) < l.length by omega)]
  simp only [cond_false, cond_true]
  exact loopF_post (F87_l4 n l) (fun d => ∃ k : Nat, d.2 = (k : Int) ∧ k ≤ l.length ∧ (d.1 > 15 ↔ ∃ j, j < k ∧ l.getD j 0 > 15)) (fun _ m => m > 15 ↔ ∃ j, j < l.length ∧ l.getD j 0 > 15) (fun d => l.length - d.2.toNat) (by
    rintro kk ⟨m, x⟩ ⟨k, e, hk, hm⟩ ih
    simp only at e hm
    subst e
    simp only [F87_l4, Int.toNat_natCast]
    by_cases hka : k < l.length
    · rw [decide_eq_true (show (k : Int) < (l.length : Int) by omega), inb_true (show (0 : Int) ≤ k by omega) (show (k : Int) < l.length by omega), w64 (n := (k : Int) + 1) (by omega) (by omega)]
      simp only [cond_true]
      refine ih (_, (k : Int) + 1) ⟨k + 1, by simp, by omega, ?_⟩ (by simp only [Int.toNat_natCast]; omega)
      simp only
      constructor
      · intro h
        split at h
        · exact ⟨k, by omega, h⟩
        · obtain ⟨j, hj, hl⟩ := hm.1 h
          exact ⟨j, by omega, hl⟩
      · rintro ⟨j, hj, hl⟩
        rcases Nat.lt_succ_iff_lt_or_eq.1 hj with h | h
        · have := hm.2 ⟨j, h, hl⟩
          split <;> omega
        · subst h
          split <;> omega
    · rw [decide_eq_false (show ¬ (k : Int) < (l.length : Int) by omega)]
      refine ⟨m, rfl, ?_⟩
      rw [hm, show k = l.length by omega]) n (l.getD 0 0, 1) ⟨1, rfl, by omega, by
        constructor
        · intro h; exact ⟨0, by omega, h⟩
        · rintro ⟨j, hj, hl⟩
          rw [show j = 0 by omega] at hl; exact hl⟩ (by simp; omega)
theorem rp36 (n : Nat) (l : List Int) (hn : 10 < n) : F36 n l = some (pathE l) := by
  unfold F36 pathE
  by_cases h6 : 6 < l.length
  · rw [decide_eq_true (show ((l.length : Nat) : Int) > 6 by omega), if_neg (by omega), if_pos h6]; rfl
  rw [decide_eq_false (show ¬ ((l.length : Nat) : Int) > 6 by omega), if_neg h6]
  by_cases h0 : l.length = 0
  · rw [if_pos h0, show (((l.length : Nat) : Int) == 0) = true by simp [h0]]; rfl
  rw [if_neg h0, show (((l.length : Nat) : Int) == 0) = false by simpa using h0]
  obtain ⟨m, e1, h1⟩ := rp86 n l hn h0 (by omega)
  obtain ⟨M, e2, h2⟩ := rp87 n l hn h0 (by omega)
  rw [e1, e2]
  simp only [cond_false, Option.bind_some]
  by_cases hm : m < 1
  · rw [decide_eq_true hm]
    obtain ⟨j, hj, hl⟩ := h1.1 hm
    rw [if_neg (fun h => by have := h j hj; omega)]; rfl
  · rw [decide_eq_false hm]
    by_cases hM : M > 15
    · rw [decide_eq_true hM]
      obtain ⟨j, hj, hl⟩ := h2.1 hM
      rw [if_neg (fun h => by have := h j hj; omega)]; rfl
    · rw [decide_eq_false hM, if_pos]
      · rfl
      · intro j hj
        refine ⟨?_, ?_⟩
        · have : ¬ l.getD j 0 < 1 := fun h => hm (h1.2 ⟨j, hj, h⟩)
          omega
        · have : ¬ l.getD j 0 > 15 := fun h => hM (h2.2 ⟨j, hj, h⟩)
          omega
/-- the number of a path -/
def numP : List Int → Nat
  | [] => 0
  | x :: l => x.toNat + 16 * numP l
theorem num_lt : ∀ l : List Int, okP l → numP l < 16 ^ l.length
  | [], _ => by simp [numP]
  | x :: l, h => by
    have h0 := h 0 (by simp)
    have h1 := num_lt l (fun j hj => by have := h (j + 1) (by simpa using hj); simpa using this)
    simp only [List.getD_cons_zero] at h0
    simp only [numP, List.length_cons, Nat.pow_succ]
    omega
theorem num_take : ∀ (l : List Int) (k : Nat), k < l.length → numP (l.take (k + 1)) = numP (l.take k) + (l.getD k 0).toNat * 16 ^ k
  | [], k, h => by simp at h
  | x :: l, 0, h => by simp [numP]
  | x :: l, k + 1, h => by
    have := num_take l k (by simpa using h)
    simp only [List.take_succ_cons, numP, this, List.getD_cons_succ, Nat.pow_succ]
    generalize (l.getD k 0).toNat = q
    generalize 16 ^ k = p
    have e : 16 * (q * p) = q * (p * 16) := by rw [Nat.mul_comm 16, Nat.mul_assoc]
    omega
theorem num_drop (l : List Int) (k : Nat) (h : k < l.length) : numP (l.drop k) = (l.getD k 0).toNat + 16 * numP (l.drop (k + 1)) := by
  rw [List.drop_eq_getElem_cons h]
  simp [numP, List.getD_eq_getElem?_getD, List.getElem?_eq_getElem h]
theorem ok_take {l : List Int} (h : okP l) (k : Nat) : okP (l.take k) := by
  intro j hj
  rw [List.length_take] at hj
  have := h j (by omega)
  rw [List.getD_eq_getElem?_getD, List.getElem?_take_of_lt (by omega), ← List.getD_eq_getElem?_getD]
  exact this
theorem ok_drop {l : List Int} (h : okP l) (k : Nat) : okP (l.drop k) := by
  intro j hj
  rw [List.length_drop] at hj
  have := h (k + j) (by omega)
  rw [List.getD_eq_getElem?_getD, List.getElem?_drop, ← List.getD_eq_getElem?_getD]
  exact this
theorem path0 {l : List Int} (h : pathE l = 0) : l.length ≠ 0 ∧ l.length ≤ 6 ∧ okP l := by
  unfold pathE at h
  by_cases h0 : l.length = 0
  · rw [if_pos h0] at h; omega
  · rw [if_neg h0] at h
    by_cases h6 : 6 < l.length
    · rw [if_pos h6] at h; omega
    · rw [if_neg h6] at h
      by_cases hk : okP l
      · exact ⟨h0, by omega, hk⟩
      · rw [if_neg hk] at h; omega
def packR (l : List Int) : Int × Int := if pathE l = 0 then ((numP l : Int), 0) else (0, pathE l)
theorem rp31 (n : Nat) (l : List Int) (hn : 10 < n) : F31 n l = some (packR l) := by
  unfold F31 packR
  rw [rp35 n l hn]
  simp only [Option.bind_some]
  by_cases h : pathE l = 0
  · obtain ⟨h0, h6, hk⟩ := path0 h
    rw [if_pos h, h]
    simp only [bne_self_eq_false, cond_false]
    obtain ⟨r, e, hr⟩ := loopF_post (F31_l2 n l) (fun d => ∃ k : Nat, d = ((numP (l.take k) : Int), (k : Int)) ∧ k ≤ l.length) (fun _ r => r = ((numP l : Int), (0 : Int))) (fun d => l.length - d.2.toNat) (by
      rintro kk x ⟨k, rfl, hkl⟩ ih
      simp only [F31_l2, Int.toNat_natCast]
      by_cases hka : k < l.length
      · have hp := hk k hka
        have hb := num_lt (l.take k) (ok_take hk k)
        rw [List.length_take, Nat.min_eq_left hkl, show 16 ^ k = 2 ^ (4 * k) by rw [Nat.pow_mul]] at hb
        have hpw : 2 ^ (4 * k) ≤ 2 ^ 20 := Nat.pow_le_pow_right (by omega) (by omega)
        have hnt := num_take l k hka
        rw [show 16 ^ k = 2 ^ (4 * k) by rw [Nat.pow_mul]] at hnt
        have hmul : (l.getD k 0).toNat * 2 ^ (4 * k) ≤ 15 * 2 ^ 20 := Nat.mul_le_mul (by omega) hpw
        have hsh : IntKind.wrap .u64 (IntKind.wrap .i64 (4 * (k : Int))) = ((4 * k : Nat) : Int) := by
          rw [w64 (by omega) (by omega), u64w]; omega
        have hx : l.getD k 0 = (((l.getD k 0).toNat : Nat) : Int) := by omega
        rw [decide_eq_true (show (k : Int) < (l.length : Int) by omega), inb_true (show (0 : Int) ≤ k by omega) (show (k : Int) < l.length by omega), hsh, decide_eq_true (show (0 : Int) ≤ ((4 * k : Nat) : Int) by omega)]
        simp only [cond_true]
        rw [w64 (n := (k : Int) + 1) (by omega) (by omega)]
        have hval : bitsI .or .i64 (numP (l.take k) : Int) (shlI .i64 (l.getD k 0) ((4 * k : Nat) : Int)) = ((numP (l.take (k + 1)) : Nat) : Int) := by
          generalize hq : (l.getD k 0).toNat = q at hx hmul hnt
          rw [hx, shl_mul q (4 * k) (by omega) (by omega), bOrAdd _ _ _ hb (by omega), hnt]
        rw [hval]
        exact ih _ ⟨k + 1, by simp, by omega⟩ (by simp only [Int.toNat_natCast]; omega)
      · rw [decide_eq_false (show ¬ (k : Int) < (l.length : Int) by omega)]
        refine ⟨_, rfl, ?_⟩
        rw [List.take_of_length_le (by omega)]) n (0, 0) ⟨0, rfl, by omega⟩ (by simp; omega)
    rw [e, hr]
  · rw [if_neg h, show (pathE l != 0) = true by simpa using h]; rfl
theorem rp32 (n : Nat) (l : List Int) (hn : 10 < n) : F32 n l = some (packR l) := by
  unfold F32 packR
  rw [rp36 n l hn]
  simp only [Option.bind_some]
  by_cases h : pathE l = 0
  · obtain ⟨h0, h6, hk⟩ := path0 h
    rw [if_pos h, h, w64 (n := ((l.length : Nat) : Int) - 1) (by omega) (by omega)]
    simp only [bne_self_eq_false, cond_false]
    obtain ⟨r, e, hr⟩ := loopF_post (F32_l2 n l) (fun d => ∃ k : Nat, d = ((numP (l.drop k) : Int), (k : Int) - 1) ∧ k ≤ l.length) (fun _ r => r = ((numP l : Int), (0 : Int))) (fun d => (d.2 + 1).toNat) (by
      rintro kk x ⟨k, rfl, hkl⟩ ih
      simp only [F32_l2]
      by_cases hka : 0 < k
      · obtain ⟨k, rfl⟩ : ∃ j, k = j + 1 := ⟨k - 1, by omega⟩
        have hp := hk k (by omega)
        have hb := num_lt (l.drop (k + 1)) (ok_drop hk (k + 1))
        have hpw : 16 ^ (l.drop (k + 1)).length ≤ 16 ^ 6 := Nat.pow_le_pow_right (by omega) (by rw [List.length_drop]; omega)
        have hd := num_drop l k (by omega)
        rw [decide_eq_true (show ((k + 1 : Nat) : Int) - 1 ≥ 0 by omega), inb_true (by omega) (by omega)]
        simp only [cond_true]
        rw [show (((k + 1 : Nat) : Int) - 1).toNat = k by omega, w64 (n := ((k + 1 : Nat) : Int) - 1 - 1) (by omega) (by omega), w64 (n := 16 * (numP (l.drop (k + 1)) : Int)) (by omega) (by omega), w64 (by omega) (by omega)]
        exact ih _ ⟨k, by rw [hd]; congr 1; omega; omega, by omega⟩ (by simp only; omega)
      · rw [decide_eq_false (by omega)]
        obtain rfl : k = 0 := by omega
        exact ⟨_, rfl, rfl⟩) n (0, ((l.length : Nat) : Int) - 1) ⟨l.length, by simp [numP], by omega⟩ (by simp; omega)
    rw [e, hr]
  · rw [if_neg h, show (pathE l != 0) = true by simpa using h]; rfl
/-- what is answered when no digit is left -/
def endR (vn : Int) (l : List Int) : Int × List Int := if pathE l = 0 ∧ (packR l).1 = vn then (0, l) else (4, [])
theorem end_ok (vn : Int) (l : List Int) : ((some (packR l)).bind fun y => (bif (y.2 != 0) then (some ((4 : Int), ([] : List Int))) else (bif (y.1 != vn) then (some (4, ([] : List Int))) else (some (0, l))))) = some (endR vn l) := by
  unfold endR
  simp only [Option.bind_some]
  by_cases h : pathE l = 0
  · have e2 : (packR l).2 = 0 := by unfold packR; rw [if_pos h]
    rw [e2]
    simp only [bne_self_eq_false, cond_false]
    by_cases h2 : (packR l).1 = vn
    · rw [if_pos ⟨h, h2⟩, h2]; simp
    · rw [if_neg (fun hh => h2 hh.2), show ((packR l).1 != vn) = true by simpa using h2]; rfl
  · have e2 : (packR l).2 = pathE l := by unfold packR; rw [if_neg h]
    rw [e2, if_neg (fun hh => h hh.1), show (pathE l != 0) = true by simpa using h]; rfl
theorem path_long {l : List Int} (h : 7 ≤ l.length) : pathE l = 2 := by
  unfold pathE
  rw [if_neg (by omega), if_pos (by omega)]
theorem end_long {vn : Int} {l : List Int} (h : 7 ≤ l.length) : endR vn l = (4, []) := by
  unfold endR
  rw [path_long h]; rfl
theorem dig_len {k m : Nat} (h : k * 16 ^ m < 9223372036854775808) (hk : 0 < k) : m ≤ 15 := by
  rcases Nat.lt_or_ge m 16 with h1 | h1
  · omega
  · have : 16 ^ 16 ≤ 16 ^ m := Nat.pow_le_pow_right (by omega) h1
    have : 1 * 16 ^ m ≤ k * 16 ^ m := Nat.mul_le_mul_right _ hk
    omega
theorem dig_next {k m : Nat} (h : k * 16 ^ m < 9223372036854775808) : k / 16 * 16 ^ (m + 1) < 9223372036854775808 := by
  rw [Nat.pow_succ, Nat.mul_comm (16 ^ m) 16, ← Nat.mul_assoc]
  have := Nat.mul_le_mul_right (16 ^ m) (Nat.div_mul_le_self k 16)
  omega
theorem k_small {k m : Nat} (h : k * 16 ^ m < 9223372036854775808) : k < 9223372036854775808 := by
  have : 1 ≤ 16 ^ m := Nat.one_le_pow _ _ (by omega)
  have := Nat.mul_le_mul_left k this
  omega
theorem step33 (n : Nat) (vn : Int) (hn : 10 < n) (K : Int × List Int → Option (Int × List Int)) (k : Nat) (l : List Int) (h : k * 16 ^ l.length < 9223372036854775808) :
    F33_l2 n vn K ((k : Int), l) = if 0 < k then K (((k / 16 : Nat) : Int), l ++ [((k % 16 : Nat) : Int)]) else some (endR vn l) := by
  simp only [F33_l2]
  by_cases hk : 0 < k
  · have hm := dig_len h hk
    have hs := k_small h
    have e1 : bitsI .and .i64 (k : Int) 15 = ((k % 16 : Nat) : Int) := bMask k 4 hs (by omega)
    have e2 : shrI .i64 (k : Int) 4 = ((k / 16 : Nat) : Int) := by
      rw [show (4 : Int) = ((4 : Nat) : Int) from rfl, shr_div .i64 _ 4 (by decide)]; rfl
    rw [if_pos hk, decide_eq_true (show (k : Int) > 0 by omega), e1, e2, decide_eq_true (show l.length + [((k % 16 : Nat) : Int)].length ≤ 17179869184 by simp; omega)]
    rfl
  · rw [if_neg hk, decide_eq_false (show ¬ (k : Int) > 0 by omega), rp31 n l hn]
    exact end_ok vn l
theorem step34 (n : Nat) (vn : Int) (hn : 10 < n) (K : Int × List Int → Option (Int × List Int)) (k : Nat) (l : List Int) (h : k * 16 ^ l.length < 9223372036854775808) :
    F34_l2 n vn K ((k : Int), l) = if 0 < k ∧ l.length < 7 then K (((k / 16 : Nat) : Int), l ++ [((k % 16 : Nat) : Int)]) else some (endR vn l) := by
  simp only [F34_l2]
  by_cases hk : 0 < k
  · have hs := k_small h
    rw [decide_eq_true (show (k : Int) > 0 by omega)]
    by_cases h7 : l.length < 7
    · have e1 : (k : Int).tmod 16 = ((k % 16 : Nat) : Int) := by rw [Int.tmod_eq_emod_of_nonneg (by omega)]; omega
      have e2 : IntKind.wrap .i64 ((k : Int).tdiv 16) = ((k / 16 : Nat) : Int) := by rw [Int.tdiv_eq_ediv_of_nonneg (by omega), w64 (by omega) (by omega)]; omega
      rw [if_pos ⟨hk, h7⟩, decide_eq_true (show ((l.length : Nat) : Int) < 7 by omega), e1, e2, decide_eq_true (show l.length + [((k % 16 : Nat) : Int)].length ≤ 17179869184 by simp; omega)]
      rfl
    · rw [if_neg (fun hh => h7 hh.2), decide_eq_false (show ¬ ((l.length : Nat) : Int) < 7 by omega), rp32 n l hn]
      exact end_ok vn l
  · rw [if_neg (fun hh => hk hh.1), decide_eq_false (show ¬ (k : Int) > 0 by omega), rp32 n l hn]
    exact end_ok vn l
theorem long33 (n : Nat) (vn : Int) (hn : 10 < n) : ∀ (f k : Nat) (l : List Int), k < f → k * 16 ^ l.length < 9223372036854775808 → 7 ≤ l.length → loopF (F33_l2 n vn) f ((k : Int), l) = some (4, [])
  | 0, k, l, h, _, _ => by omega
  | f + 1, k, l, h, hb, h7 => by
    show F33_l2 n vn (loopF (F33_l2 n vn) f) ((k : Int), l) = _
    rw [step33 n vn hn _ k l hb]
    by_cases hk : 0 < k
    · rw [if_pos hk]
      exact long33 n vn hn f (k / 16) _ (by omega) (by rw [List.length_append]; exact dig_next hb) (by rw [List.length_append]; omega)
    · rw [if_neg hk, end_long h7]
theorem unpack_same (n : Nat) (vn : Int) (hn : 10 < n) : ∀ (f f' k : Nat) (l : List Int), k < f → k < f' → k * 16 ^ l.length < 9223372036854775808 → l.length ≤ 7 →
    ∃ r, loopF (F33_l2 n vn) f ((k : Int), l) = some r ∧ loopF (F34_l2 n vn) f' ((k : Int), l) = some r ∧ r.2.length ≤ 7
  | 0, f', k, l, h, _, _, _ => by omega
  | f + 1, 0, k, l, _, h, _, _ => by omega
  | f + 1, f' + 1, k, l, h, h', hb, h7 => by
    show ∃ r, F33_l2 n vn (loopF (F33_l2 n vn) f) ((k : Int), l) = some r ∧ F34_l2 n vn (loopF (F34_l2 n vn) f') ((k : Int), l) = some r ∧ _
    rw [step33 n vn hn _ k l hb, step34 n vn hn _ k l hb]
    have hend : (endR vn l).2.length ≤ 7 := by
      unfold endR
      split
      · exact h7
      · simp
    by_cases hk : 0 < k
    · rw [if_pos hk]
      by_cases hl : l.length < 7
      · rw [if_pos ⟨hk, hl⟩]
        exact unpack_same n vn hn f f' (k / 16) _ (by omega) (by omega) (by rw [List.length_append]; exact dig_next hb) (by rw [List.length_append]; simp; omega)
      · rw [if_neg (fun hh => hl hh.2), end_long (by omega), long33 n vn hn f (k / 16) _ (by omega) (by rw [List.length_append]; exact dig_next hb) (by rw [List.length_append]; omega)]
        exact ⟨_, rfl, rfl, by simp⟩
    · rw [if_neg hk, if_neg (fun hh => hk hh.1)]
      exact ⟨_, rfl, rfl, hend⟩
theorem routePacks_says (path : List Int) (g0 : Sh.good (.sl (.int .i64)) path) (vn : Int) (g1 : Sh.good (.int .i64) vn) : ∃ n, F7 n path vn = some true := by
  have hv := good_i64 g1
  have main : ∃ r, F33 (vn.toNat + 2000) vn = some r ∧ F34 (vn.toNat + 2000) vn = some r ∧ r.2.length ≤ 7 := by
    unfold F33 F34
    by_cases h : 0 ≤ vn
    · have e : vn = ((vn.toNat : Nat) : Int) := by omega
      have := unpack_same (vn.toNat + 2000) vn (by omega) (vn.toNat + 2000) (vn.toNat + 2000) vn.toNat [] (by omega) (by omega) (by simp; omega) (by simp)
      rw [← e] at this
      exact this
    · refine ⟨endR vn [], ?_, ?_, ?_⟩
      · show F33_l2 _ vn _ (vn, []) = _
        simp only [F33_l2]
        rw [decide_eq_false (show ¬ vn > 0 by omega), rp31 _ [] (by omega)]
        exact end_ok vn []
      · show F34_l2 _ vn _ (vn, []) = _
        simp only [F34_l2]
        rw [decide_eq_false (show ¬ vn > 0 by omega), rp32 _ [] (by omega)]
        exact end_ok vn []
      · unfold endR
        split <;> simp
  obtain ⟨r, e1, e2, hr⟩ := main
  refine ⟨vn.toNat + 2000, ?_⟩
  unfold F7
  rw [rp31 _ path (by omega), rp32 _ path (by omega), e1, e2, rp35 _ path (by omega), rp36 _ path (by omega)]
  simp only [Option.bind_some, BEq.rfl, cond_true]
  rw [rf25 _ _ _ (by omega) (by omega), decide_eq_true rfl]
  rfl
end Go.Proofs.Ytgcdohclbkmmdaa
