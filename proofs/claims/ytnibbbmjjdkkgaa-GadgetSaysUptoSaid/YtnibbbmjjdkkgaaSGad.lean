/- GadgetSays, in plain Lean: parts. -/
import Derived.Test.YtnibbbmjjdkkgaaSSheet
import Derived.Test.YtnibbbmjjdkkgaaSSetup
namespace Go.Proofs.Ytnibbbmjjdkkgaa
open Go Go.RowKit
set_option linter.unusedVariables false

/-! one bit -/
theorem or_bit0 (h j : Nat) (hb : h / 2 ^ j % 2 = 0) : h ||| 2 ^ j = h + 2 ^ j := by
  have hr : h % 2 ^ j < 2 ^ j := Nat.mod_lt _ (Nat.pow_pos (by omega))
  have hd := Nat.mod_add_div h (2 ^ j)
  obtain ⟨m, hm⟩ : ∃ m, h / 2 ^ j = 2 * m := ⟨h / 2 ^ j / 2, by omega⟩
  have e2 : 2 ^ j * (2 * m) = m * 2 ^ (j + 1) := by rw [Nat.pow_succ, Nat.mul_comm (2 ^ j) (2 * m), Nat.mul_comm (2 ^ j) 2, ← Nat.mul_assoc, Nat.mul_comm m 2]
  rw [hm, e2] at hd
  have hp : (2 : Nat) ^ (j + 1) = 2 ^ j + 2 ^ j := by rw [Nat.pow_succ]; omega
  have a1 : h % 2 ^ j ||| m * 2 ^ (j + 1) = h := by rw [nat_or_add _ _ _ (by omega)]; exact hd
  have a2 : h % 2 ^ j ||| 2 ^ j = h % 2 ^ j + 2 ^ j := by
    have := nat_or_add (h % 2 ^ j) 1 j hr
    simpa using this
  have a3 : (h % 2 ^ j + 2 ^ j) ||| m * 2 ^ (j + 1) = (h % 2 ^ j + 2 ^ j) + m * 2 ^ (j + 1) := nat_or_add _ _ _ (by omega)
  have a4 : h ||| 2 ^ j = (h % 2 ^ j ||| m * 2 ^ (j + 1)) ||| 2 ^ j := by rw [a1]
  rw [a4, Nat.or_assoc, Nat.or_comm (m * 2 ^ (j + 1)) (2 ^ j), ← Nat.or_assoc, a2, a3]
  omega
theorem mask_bit (j i : Nat) (hj : j < 32) : (2 ^ 64 - 1 - 2 ^ j).testBit i = (decide (i < 64) && !decide (j = i)) := by
  have hp : (2 : Nat) ^ j < 2 ^ 64 := Nat.pow_lt_pow_right (by omega) (by omega)
  rw [show 2 ^ 64 - 1 - 2 ^ j = 2 ^ 64 - (2 ^ j + 1) by omega, Nat.testBit_two_pow_sub_succ hp, Nat.testBit_two_pow]
theorem and_bit0 (h j : Nat) (hh : h < 4294967296) (hj : j < 32) (hb : h / 2 ^ j % 2 = 0) : h &&& (2 ^ 64 - 1 - 2 ^ j) = h ∧ (h ||| 2 ^ j) &&& (2 ^ 64 - 1 - 2 ^ j) = h := by
  have hz : h.testBit j = false := by rw [Nat.testBit_eq_decide_div_mod_eq]; exact decide_eq_false (by omega)
  have hbig : ∀ i, 64 ≤ i → h.testBit i = false := fun i hi => Nat.testBit_lt_two_pow (Nat.lt_of_lt_of_le (show h < 2 ^ 64 by omega) (Nat.pow_le_pow_right (by omega) hi))
  constructor
  · apply Nat.eq_of_testBit_eq
    intro i
    rw [Nat.testBit_and, mask_bit j i hj]
    by_cases h1 : i < 64
    · by_cases h2 : j = i
      · subst h2; rw [hz]; rfl
      · rw [decide_eq_true h1, decide_eq_false h2]; simp
    · rw [hbig i (by omega)]; rfl
  · apply Nat.eq_of_testBit_eq
    intro i
    rw [Nat.testBit_and, Nat.testBit_or, Nat.testBit_two_pow, mask_bit j i hj]
    by_cases h1 : i < 64
    · by_cases h2 : j = i
      · subst h2; rw [hz]; simp
      · rw [decide_eq_true h1, decide_eq_false h2]; simp
    · rw [hbig i (by omega), decide_eq_false h1]; simp
theorem bAndNot (h j : Nat) (hh : h < 4294967296) (hj : j < 32) : bitsI .andNot .i64 (h : Int) ((2 ^ j : Nat) : Int) = ((h &&& (2 ^ 64 - 1 - 2 ^ j) : Nat) : Int) := by
  have hp : (2 : Nat) ^ j < 2 ^ 32 := Nat.pow_lt_pow_right (by omega) (by omega)
  have hx : h &&& (2 ^ 64 - 1 - 2 ^ j) ≤ h := Nat.and_le_left
  show IntKind.i64.wrap ((BitVec.ofInt 64 (h : Int) &&& ~~~ BitVec.ofInt 64 ((2 ^ j : Nat) : Int)).toNat : Int) = _
  rw [BitVec.toNat_and, BitVec.toNat_not, bv64 h (by omega), bv64 (2 ^ j) (by omega), w64n _ (by omega)]
/-- a bit that is cleared, and one that is set -/
theorem bit_off (h j : Nat) (hh : h < 4294967296) (hj : j < 32) : bitsI .andNot .i64 (h : Int) ((2 ^ j : Nat) : Int) = if h / 2 ^ j % 2 = 1 then (h : Int) - ((2 ^ j : Nat) : Int) else (h : Int) := by
  rw [bAndNot h j hh hj]
  have hpos : 0 < 2 ^ j := Nat.pow_pos (by omega)
  by_cases hb : h / 2 ^ j % 2 = 1
  · rw [if_pos hb]
    have hle : 2 ^ j ≤ h := by
      have : 1 ≤ h / 2 ^ j := Nat.pos_of_ne_zero fun hz => by rw [hz] at hb; exact absurd hb (by decide)
      exact (Nat.le_div_iff_mul_le hpos).1 this |> fun x => by simpa using x
    obtain ⟨h0, rfl⟩ : ∃ h0, h = h0 + 2 ^ j := ⟨h - 2 ^ j, by omega⟩
    have hq : (h0 + 2 ^ j) / 2 ^ j = h0 / 2 ^ j + 1 := Nat.add_div_right _ hpos
    have h0b : h0 / 2 ^ j % 2 = 0 := by omega
    rw [← or_bit0 h0 j h0b, (and_bit0 h0 j (by omega) hj h0b).2, or_bit0 h0 j h0b]
    omega
  · rw [if_neg hb, (and_bit0 h j hh hj (by omega)).1]
theorem bit_on (h j : Nat) (hh : h < 4294967296) (hj : j < 32) : bitsI .or .i64 (bitsI .andNot .i64 (h : Int) ((2 ^ j : Nat) : Int)) ((2 ^ j : Nat) : Int) = if h / 2 ^ j % 2 = 1 then (h : Int) else (h : Int) + ((2 ^ j : Nat) : Int) := by
  have hp : (2 : Nat) ^ j < 2 ^ 32 := Nat.pow_lt_pow_right (by omega) (by omega)
  rw [bit_off h j hh hj]
  have hpos : 0 < 2 ^ j := Nat.pow_pos (by omega)
  by_cases hb : h / 2 ^ j % 2 = 1
  · rw [if_pos hb, if_pos hb]
    have hle : 2 ^ j ≤ h := by
      have : 1 ≤ h / 2 ^ j := Nat.pos_of_ne_zero fun hz => by rw [hz] at hb; exact absurd hb (by decide)
      exact (Nat.le_div_iff_mul_le hpos).1 this |> fun x => by simpa using x
    obtain ⟨h0, rfl⟩ : ∃ h0, h = h0 + 2 ^ j := ⟨h - 2 ^ j, by omega⟩
    have hq : (h0 + 2 ^ j) / 2 ^ j = h0 / 2 ^ j + 1 := Nat.add_div_right _ hpos
    have h0b : h0 / 2 ^ j % 2 = 0 := by omega
    rw [show ((h0 + 2 ^ j : Nat) : Int) - ((2 ^ j : Nat) : Int) = (h0 : Int) by omega, bOr h0 (2 ^ j) (by omega) (by omega), or_bit0 h0 j h0b]
  · rw [if_neg hb, if_neg hb, bOr h (2 ^ j) (by omega) (by omega), or_bit0 h j (by omega)]
    omega
theorem tdivN (a b : Nat) : ((a : Int)).tdiv (b : Int) = ((a / b : Nat) : Int) := by
  rw [Int.tdiv_eq_ediv_of_nonneg (by omega)]; simp
theorem tmodN (a b : Nat) : ((a : Int)).tmod (b : Int) = ((a % b : Nat) : Int) := by
  rw [Int.tmod_eq_emod_of_nonneg (by omega)]; simp
theorem pow_le62 {k : Nat} (h : k ≤ 62) : (2 : Nat) ^ k ≤ 4611686018427387904 := Nat.pow_le_pow_right (by omega) h
theorem twoV (n k : Nat) (hk : k ≤ 62) (hn : k < n) : F61 n (k : Int) = some ((2 ^ k : Nat) : Int) := by
  unfold F61
  refine loopF_eq (F61_l2 n (k : Int)) (fun _ => some ((2 ^ k : Nat) : Int)) (fun d => ∃ j : Nat, j ≤ k ∧ d = (((2 ^ j : Nat) : Int), (j : Int))) (fun d => k - d.2.toNat) ?_ n (1, 0) ⟨0, by omega, rfl⟩ (by simp; omega)
  rintro kk d ⟨j, hj, rfl⟩ ih
  simp only [F61_l2]
  by_cases hjk : j < k
  · have h2 : (2 : Nat) ^ (j + 1) ≤ 4611686018427387904 := pow_le62 (by omega)
    have e1 : IntKind.wrap .i64 (((2 ^ j : Nat) : Int) * 2) = ((2 ^ (j + 1) : Nat) : Int) := by
      have : ((2 ^ j : Nat) : Int) * 2 = ((2 ^ (j + 1) : Nat) : Int) := by rw [Nat.pow_succ]; simp
      rw [this, w64n _ (by omega)]
    rw [decide_eq_true (show (j : Int) < (k : Int) by omega), e1, w64 (n := (j : Int) + 1) (by omega) (by omega)]
    exact ih _ ⟨j + 1, by omega, rfl⟩ (by simp only; omega)
  · obtain rfl : j = k := by omega
    rw [decide_eq_false (by omega)]; rfl
/-! how a device stands -/
theorem beqD (x c : Int) : (x == c) = decide (x = c) := by
  by_cases h : x = c
  · rw [decide_eq_true h]; exact beq_iff_eq.2 h
  · rw [decide_eq_false h]; exact beq_eq_false_iff_ne.2 h
def validV (st ad ha : Int) : Bool := decide ((st = 0 ∧ ad = 0 ∨ (st = 1 ∨ st = 2) ∧ 1 ≤ ad ∧ ad ≤ 127) ∧ (0 ≤ ha ∧ ha < 4294967296) ∧ (ha = 0 ∨ st = 2))
theorem validP (n : Nat) (st ad ha : Int) : F36 n st ad ha = some (validV st ad ha) := by
  have jt : F36_j2 n st ha true = some (decide ((0 ≤ ha ∧ ha < 4294967296) ∧ (ha = 0 ∨ st = 2))) := by
    simp only [F36_j2, cond_true]
    by_cases h1 : 0 ≤ ha <;> by_cases h2 : ha < 4294967296 <;> by_cases h3 : ha = 0 <;> by_cases h4 : st = 2 <;> simp [beqD, h1, h2, h3, h4]
  have jf : F36_j2 n st ha false = some false := rfl
  unfold F36 validV
  by_cases h0 : st = 0
  · subst h0
    by_cases ha0 : ad = 0
    · subst ha0; simp only [BEq.rfl, cond_true, jt]; simp
    · simp [beqD, ha0, jf]
  · by_cases h1 : st = 1
    · subst h1
      by_cases g1 : 1 ≤ ad
      · by_cases g2 : ad ≤ 127
        · simp [beqD, g1, g2, jt]
        · simp [beqD, g1, g2, jf]
      · simp [beqD, g1, jf]
    · by_cases h2 : st = 2
      · subst h2
        by_cases g1 : 1 ≤ ad
        · by_cases g2 : ad ≤ 127
          · simp [beqD, g1, g2, jt]
          · simp [beqD, g1, g2, jf]
        · simp [beqD, g1, jf]
      · simp [beqD, h0, h1, h2, jf]
theorem validR (n : Nat) (hn : 100 < n) (st ad ha : Int) : F39 n st ad ha = some (validV st ad ha) := by
  have e32 : F61 n 32 = some 4294967296 := twoV n 32 (by omega) (by omega)
  unfold F39 validV
  simp only [btw3, e32, Option.bind_some, w64 (n := 4294967296 - 1) (by omega) (by omega)]
  by_cases hs : 0 ≤ st ∧ st ≤ 2
  · rw [decide_eq_true hs]
    by_cases hh : 0 ≤ ha ∧ ha ≤ 4294967296 - 1
    · rw [decide_eq_true hh]
      obtain ⟨hs1, hs2⟩ := hs
      have h3 : ha < 4294967296 := by omega
      by_cases hz : ha = 0
      · subst hz
        rcases (show st = 0 ∨ st = 1 ∨ st = 2 by omega) with rfl | rfl | rfl
        · by_cases hd : ad = 0 <;> simp [beqD, hd]
        · by_cases g : 1 ≤ ad ∧ ad ≤ 127 <;> simp [beqD, g]
        · by_cases g : 1 ≤ ad ∧ ad ≤ 127 <;> simp [beqD, g]
      · rcases (show st = 0 ∨ st = 1 ∨ st = 2 by omega) with rfl | rfl | rfl
        · simp [beqD, hz]
        · simp [beqD, hz]
        · by_cases g : 1 ≤ ad ∧ ad ≤ 127 <;> simp [beqD, g, hh.1, h3]
    · rw [decide_eq_false hh, decide_eq_false (fun h : (st = 0 ∧ ad = 0 ∨ (st = 1 ∨ st = 2) ∧ 1 ≤ ad ∧ ad ≤ 127) ∧ (0 ≤ ha ∧ ha < 4294967296) ∧ (ha = 0 ∨ st = 2) => hh ⟨h.2.1.1, by have := h.2.1.2; omega⟩)]
      rfl
  · rw [decide_eq_false hs, decide_eq_false (fun h : (st = 0 ∧ ad = 0 ∨ (st = 1 ∨ st = 2) ∧ 1 ≤ ad ∧ ad ≤ 127) ∧ (0 ≤ ha ∧ ha < 4294967296) ∧ (ha = 0 ∨ st = 2) => by rcases h.1 with ⟨h1, _⟩ | ⟨h1 | h1, _⟩ <;> omega)]
    rfl
theorem valid_facts {st ad ha : Int} (h : validV st ad ha = true) : (0 ≤ st ∧ st ≤ 2) ∧ (0 ≤ ha ∧ ha < 4294967296) ∧ (st ≠ 2 → ha = 0) := by
  unfold validV at h
  have h := of_decide_eq_true h
  exact ⟨by rcases h.1 with ⟨h1, _⟩ | ⟨h1 | h1, _⟩ <;> omega, h.2.1, fun h2 => h.2.2.resolve_right h2⟩
end Go.Proofs.Ytnibbbmjjdkkgaa
