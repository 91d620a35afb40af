/- The law SlotsDo, in plain Lean (second part: the commands). -/
import Derived.Test.YthololnakkpieaaSDo
namespace Go.Proofs.Ythololnakkpieaa
open Go Go.RowKit
open Classical
set_option linter.unusedVariables false

theorem slD (b : Slots) (c : Nat) (s : Slot) (hc : c < b.length) : (b.set c s).getD c zeroS = s := by
  have := sl_set b c c s hc
  rwa [if_pos rfl] at this
theorem addressD (n : Nat) (hn : 300 < n) (b : Slots) (hl : b.length = 9) (c : Nat) (hc : c < 9) (L : Nat) (h0 : 1 ≤ L) (hm : L ≤ 128) (h1 : ∀ k, k < 9 → (sl b k).2.1 ≠ (L : Int)) (h2 : ∀ a : Nat, 1 ≤ a → a < L → ∃ k, k < 9 ∧ (sl b k).2.1 = (a : Int)) :
    loopF (F49_l79 n b (c : Int)) n (1, true) = pick b 1 (c : Int) (b.set c (2, (L : Int), (sl b c).2.2.1.set 1 1, (sl b c).2.2.2)) := by
  refine loopF_eq (F49_l79 n b (c : Int)) (fun _ => pick b 1 (c : Int) (b.set c (2, (L : Int), (sl b c).2.2.1.set 1 1, (sl b c).2.2.2))) (fun d => ∃ a : Nat, d.1 = (a : Int) ∧ 1 ≤ a ∧ a ≤ L ∧ (d.2 = false → a = L)) (fun d => 2 * (L - d.1.toNat) + (if d.2 then 1 else 0)) ?_ n (1, true) ⟨1, rfl, by omega, by omega, fun h => by cases h⟩ (by simp; omega)
  rintro kk ⟨x, y⟩ ⟨a, rfl, ha1, haL, hy⟩ ih
  cases y
  · obtain rfl := hy rfl
    simp only [F49_l79, cond_false, Int.toNat_natCast, j71]
    have e : ∀ A, (b.set c A).getD c zeroS = A := fun A => slD b c A (by omega)
    simp only [List.set_set, e]
    rfl
  · show loopF (F49_l80 n kk b) n ((a : Int), false, 0) = _
    refine pass n (by omega) kk _ b L a ha1 haL hm h1 h2 (fun e => ?_) (fun a' k1 k2 => ?_)
    · exact ih ((a : Int), false) ⟨a, rfl, by omega, haL, fun _ => e⟩ (by simp)
    · exact ih ((a' : Int), true) ⟨a', rfl, by omega, k2, fun h => by cases h⟩ (by simp; omega)
/-- a bit of what is chosen -/
def bitD (set : Int) (k : Nat) : Bool := set / 2 ^ k % 2 == 1
theorem two (n : Nat) (hn : 100 < n) (k : Nat) (hk : k ≤ 60) : F34 n (k : Int) = some ((2 ^ k : Nat) : Int) := by
  unfold F34
  refine loopF_eq (F34_l2 n (k : Int)) (fun _ => some ((2 ^ k : Nat) : Int)) (fun d => ∃ j : Nat, d = (((2 ^ j : Nat) : Int), (j : Int)) ∧ j ≤ k) (fun d => k - d.2.toNat) ?_ n (1, 0) ⟨0, rfl, by omega⟩ (by simp; omega)
  rintro kk d ⟨j, rfl, hj⟩ ih
  simp only [F34_l2]
  by_cases h : j < k
  · have : 2 ^ j < 2 ^ 60 := Nat.pow_lt_pow_right (by omega) (by omega)
    have e2 : IntKind.wrap .i64 (((2 ^ j : Nat) : Int) * 2) = ((2 ^ (j + 1) : Nat) : Int) := by
      rw [Nat.pow_succ]
      generalize 2 ^ j = p at *
      rw [w64 (by omega) (by omega)]; omega
    rw [decide_eq_true (show (j : Int) < (k : Int) by omega), w64 (n := (j : Int) + 1) (by omega) (by omega), e2]
    exact ih _ ⟨j + 1, rfl, by omega⟩ (by simp only [Int.toNat_natCast]; omega)
  · obtain rfl : j = k := by omega
    rw [decide_eq_false (by omega)]; rfl
theorem bitP (set : Int) (h0 : 0 ≤ set) (h1 : set < 4294967296) (k : Nat) (hk : k < 32) : (bitsI .and .i64 (shrI .i64 set (IntKind.wrap .u64 (k : Int))) 1 == 1) = bitD set k := by
  have e : IntKind.wrap .u64 (k : Int) = (k : Int) := by rw [u64w]; omega
  rw [e, shr_div .i64 set k (by show k ≤ 64; omega)]
  obtain ⟨x, rfl⟩ : ∃ x : Nat, set = (x : Int) := ⟨set.toNat, by omega⟩
  have e2 : (x : Int) / 2 ^ k = ((x / 2 ^ k : Nat) : Int) := by simp
  unfold bitD
  rw [e2]
  have := bMask (x / 2 ^ k) 1 (Nat.lt_of_le_of_lt (Nat.div_le_self _ _) (by omega)) (by omega)
  have e3 : ((2 ^ 1 - 1 : Nat) : Int) = 1 := rfl
  rw [e3] at this
  rw [this]
  simp
theorem bitR (set : Int) (h0 : 0 ≤ set) (h1 : set < 4294967296) (k : Nat) (hk : k < 32) : ((IntKind.wrap .i64 (set.tdiv ((2 ^ k : Nat) : Int))).tmod 2 == 1) = bitD set k := by
  obtain ⟨x, rfl⟩ : ∃ x : Nat, set = (x : Int) := ⟨set.toNat, by omega⟩
  have e2 : (x : Int) / 2 ^ k = ((x / 2 ^ k : Nat) : Int) := by simp
  have h3 : x / 2 ^ k ≤ x := Nat.div_le_self _ _
  unfold bitD
  rw [Int.tdiv_eq_ediv_of_nonneg (by omega), show (x : Int) / ((2 ^ k : Nat) : Int) = ((x / 2 ^ k : Nat) : Int) by simp, e2]
  generalize x / 2 ^ k = y at *
  rw [w64 (by omega) (by omega), Int.tmod_eq_emod_of_nonneg (by omega)]
theorem noBits (set : Int) (h0 : 0 ≤ set) (h1 : set < 4294967296) (h4 : set % 4 = 0) (h : ∀ k, 2 ≤ k → k < 32 → bitD set k = false) : set = 0 := by
  obtain ⟨x, rfl⟩ : ∃ x : Nat, set = (x : Int) := ⟨set.toNat, by omega⟩
  have : x = 0 := by
    apply Nat.eq_of_testBit_eq
    intro i
    rw [Nat.zero_testBit]
    by_cases hi : i < 32
    · by_cases h2 : 2 ≤ i
      · have hb := h i h2 hi
        unfold bitD at hb
        have e2 : (x : Int) / 2 ^ i % 2 = ((x / 2 ^ i % 2 : Nat) : Int) := by simp
        rw [e2, beq_eq_false_iff_ne] at hb
        rw [Nat.testBit_eq_decide_div_mod_eq, decide_eq_false_iff_not]
        omega
      · rw [Nat.testBit_eq_decide_div_mod_eq, decide_eq_false_iff_not]
        have : i = 0 ∨ i = 1 := by omega
        rcases this with rfl | rfl <;> omega
    · have : 2 ^ 32 ≤ 2 ^ i := Nat.pow_le_pow_right (by omega) (by omega)
      exact Nat.testBit_lt_two_pow (by omega)
  omega
/-- what an endpoint is behind 'configure' -/
def endC (s : Slot) (set : Int) (k : Nat) : Int := if bitD set k then (if en s k = 0 then 1 else en s k) else 0
def markC (s : Slot) (set : Int) (k : Nat) : Int := if bitD set k then mk' s k else 0
theorem gset (l : List Int) (i j : Nat) (v : Int) (hi : i < l.length) : (l.set i v).getD j 0 = if i = j then v else l.getD j 0 := by
  rw [List.getD_eq_getElem?_getD, List.getElem?_set]
  by_cases h : i = j
  · subst h; simp [hi]
  · simp [h, List.getD_eq_getElem?_getD]
end Go.Proofs.Ythololnakkpieaa
