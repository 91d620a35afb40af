/- Contracts: crc.feed at uint8 and uint16. -/
import Derived.Test.YtbeilpecdimheaaKit
namespace Go.Proofs.Ytbeilpecdimheaa
open Go.RowKit
set_option linter.unusedVariables false

/-- one bit into a register -/
def feedStep (c : Nat) (r : Nat) (bit : Bool) : Nat := if (r % 2 == 1) != bit then (r / 2) ^^^ c else r / 2
def feedN (c n : Nat) (r : Nat) : Nat → Nat
  | 0 => r
  | k + 1 => feedStep c (feedN c n r k) (decide (n / 2 ^ k % 2 = 1))

theorem xor_lt (a b m : Nat) (ha : a < 2 ^ m) (hb : b < 2 ^ m) : a ^^^ b < 2 ^ m := Nat.xor_lt_two_pow ha hb
theorem feedStep_lt {c r m : Nat} (hr : r < 2 ^ m) (hc : c < 2 ^ m) (b : Bool) : feedStep c r b < 2 ^ m := by
  unfold feedStep
  split
  · exact xor_lt _ _ _ (by omega) hc
  · omega
theorem feedN_lt {c n r m : Nat} (hr : r < 2 ^ m) (hc : c < 2 ^ m) (k : Nat) : feedN c n r k < 2 ^ m := by
  induction k with
  | zero => exact hr
  | succ k ih => exact feedStep_lt ih hc _

theorem feed8_test (x n p : Nat) (hx : x < 256) (hn : n < 65536) (hp : 1 ≤ p) :
    (Go.bits .and .u8 (x : Int) 1 != Go.bits .and .u16 ((n : Int) / p) 1 % 256) = ((x % 2 == 1) != decide (n / p % 2 = 1)) := by
  have h1 : n / p < 65536 := Nat.lt_of_le_of_lt (Nat.div_le_self _ _) hn
  have e1 : Go.bits .and .u8 (x : Int) 1 = ((x &&& 1 : Nat) : Int) := u8_and_nat x 1 hx (by decide)
  have e2 : Go.bits .and .u16 ((n : Int) / p) 1 = ((n / p &&& 1 : Nat) : Int) := by
    have := u16_and_nat (n / p) 1 h1 (by decide)
    simpa using this
  rw [e1, e2, nat_mask1, nat_mask1]
  generalize n / p = q
  rcases Nat.mod_two_eq_zero_or_one q with h | h <;> rcases Nat.mod_two_eq_zero_or_one x with h' | h' <;> rw [h, h'] <;> rfl
set_option maxHeartbeats 400000 in
theorem feed8_any (r c n m : Nat) (hr : r < 256) (hc : c < 256) (hn : n < 65536) (hm : m ≤ 16) (w : World) :
    Calls Try.prog 88 #[.int .u8 r, .int .u8 c, .int .u16 n, .int .i64 m] w fun e w' => e = .returned (.int .u8 (feedN c n r m : Nat)) ∧ w = w' := by
  go_enter Try.func88, Try.ntmps88
  go_wp2
  go_loop [0, 12] (fun v i => ∃ k : Nat, k ≤ m ∧ i = .int .i64 k ∧ v = .int .u8 (feedN c n r k : Nat)) (fun _ i => m - (intOf i).toNat)
  case atStart => exact ⟨0, Nat.zero_le _, rfl, rfl⟩
  case round =>
    obtain ⟨k, hk, rfl, rfl⟩ := hrel
    by_cases hlt : k < m
    · have hlt0 := feedN_lt (n := n) (m := 8) hr hc k
      have hstep : feedN c n r (k + 1) = feedStep c (feedN c n r k) (decide (n / 2 ^ k % 2 = 1)) := rfl
      generalize feedN c n r k = x at hlt0 hstep ⊢
      have hx2 : x / 2 < 256 := by omega
      have ht := feed8_test x n (2 ^ k) (by omega) hn Nat.one_le_two_pow
      have hxor := u8_xor_nat (x / 2) c hx2 hc
      push_cast at ht
      unfold feedStep at hstep
      rw [← ht] at hstep
      have HS := Lib.hid hstep
      have HX := Lib.hid hxor
      clear hstep hxor ht
      go_wp2
      all_goals go_round
      all_goals try (case measure => simp [intOf]; omega)
      all_goals try (case rel =>
        refine ⟨k + 1, by omega, by go_num, ?_⟩
        have hh := HS.out
        first
          | (rw [if_pos (by assumption)] at hh; rw [hh]; simpa using HX.out)
          | (rw [if_neg (by rw [Bool.not_eq_true]; assumption)] at hh; rw [hh]; simp))
    · obtain rfl : k = m := by omega
      go_wp2
      go_ret
      exact ⟨rfl, rfl⟩
theorem feed16_test (x n p : Nat) (hx : x < 65536) (hn : n < 65536) (hp : 1 ≤ p) :
    (Go.bits .and .u16 (x : Int) 1 != Go.bits .and .u16 ((n : Int) / p) 1) = ((x % 2 == 1) != decide (n / p % 2 = 1)) := by
  have h1 : n / p < 65536 := Nat.lt_of_le_of_lt (Nat.div_le_self _ _) hn
  have e1 : Go.bits .and .u16 (x : Int) 1 = ((x &&& 1 : Nat) : Int) := u16_and_nat x 1 hx (by decide)
  have e2 : Go.bits .and .u16 ((n : Int) / p) 1 = ((n / p &&& 1 : Nat) : Int) := by
    have := u16_and_nat (n / p) 1 h1 (by decide)
    simpa using this
  rw [e1, e2, nat_mask1, nat_mask1]
  generalize n / p = q
  rcases Nat.mod_two_eq_zero_or_one q with h | h <;> rcases Nat.mod_two_eq_zero_or_one x with h' | h' <;> rw [h, h'] <;> rfl
set_option maxHeartbeats 400000 in
theorem feed16_any (r c n m : Nat) (hr : r < 65536) (hc : c < 65536) (hn : n < 65536) (hm : m ≤ 16) (w : World) :
    Calls Try.prog 97 #[.int .u16 r, .int .u16 c, .int .u16 n, .int .i64 m] w fun e w' => e = .returned (.int .u16 (feedN c n r m : Nat)) ∧ w = w' := by
  go_enter Try.func97, Try.ntmps97
  go_wp2
  go_loop [0, 12] (fun v i => ∃ k : Nat, k ≤ m ∧ i = .int .i64 k ∧ v = .int .u16 (feedN c n r k : Nat)) (fun _ i => m - (intOf i).toNat)
  case atStart => exact ⟨0, Nat.zero_le _, rfl, rfl⟩
  case round =>
    obtain ⟨k, hk, rfl, rfl⟩ := hrel
    by_cases hlt : k < m
    · have hlt0 := feedN_lt (n := n) (m := 16) hr hc k
      have hstep : feedN c n r (k + 1) = feedStep c (feedN c n r k) (decide (n / 2 ^ k % 2 = 1)) := rfl
      generalize feedN c n r k = x at hlt0 hstep ⊢
      have hx2 : x / 2 < 65536 := by omega
      have ht := feed16_test x n (2 ^ k) (by omega) hn Nat.one_le_two_pow
      have hxor := u16_xor_nat (x / 2) c hx2 hc
      push_cast at ht
      unfold feedStep at hstep
      rw [← ht] at hstep
      have HS := Lib.hid hstep
      have HX := Lib.hid hxor
      clear hstep hxor ht
      go_wp2
      all_goals go_round
      all_goals try (case measure => simp [intOf]; omega)
      all_goals try (case rel =>
        refine ⟨k + 1, by omega, by go_num, ?_⟩
        have hh := HS.out
        first
          | (rw [if_pos (by assumption)] at hh; rw [hh]; simpa using HX.out)
          | (rw [if_neg (by rw [Bool.not_eq_true]; assumption)] at hh; rw [hh]; simp))
    · obtain rfl : k = m := by omega
      go_wp2
      go_ret
      exact ⟨rfl, rfl⟩
end Go.Proofs.Ytbeilpecdimheaa
