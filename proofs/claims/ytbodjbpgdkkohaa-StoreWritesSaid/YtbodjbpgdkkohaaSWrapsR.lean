/- Wrappers, as the document writes them; in plain Lean. -/
import Derived.Test.YtbodjbpgdkkohaaSWraps
namespace Go.Proofs.Ytbodjbpgdkkohaa
open Go Go.RowKit
set_option linter.unusedVariables false

theorem docJ (n : Nat) (hn : 10 < n) (t l u : Int) (c : Tx) (hc : c.length ≤ 16) (ht : 0 ≤ t ∧ t ≤ 4294967295) (hl : 0 ≤ l ∧ l ≤ 4294967295) (hu : 0 ≤ u ∧ u ≤ 15) (f : Int) (hf : f = 0 ∨ f = 128) : F45_j4 n t l u c f = some (wtext t l f u c, 0) := by
  unfold F45_j4
  simp only [bytes3 n hn f u (c.length : Int) (by omega) (by omega) (by omega), lowR n t ht.1 ht.2, lowR n l hl.1 hl.2, Option.bind_some]
  have h1 : (head ++ lb t).length = 8 := rfl
  have h2 : ((head ++ lb t) ++ lb l).length = 12 := rfl
  have h3 : (((head ++ lb t) ++ lb l) ++ mid f u c.length).length = 15 := rfl
  have h4 := wl t l f u c
  have e0 : strOf [IntKind.wrap .u8 f, IntKind.wrap .u8 u, IntKind.wrap .u8 ((c.length : Nat) : Int)] = mid f u c.length := by
    unfold mid
    have : IntKind.wrap .u8 f = f := by rw [u8w]; omega
    rw [this]
  rw [e0]
  have rz := repZ n 16 (by omega)
  rw [show ((16 : Nat) : Int) = 16 from rfl] at rz
  have r0 : (bif decide (head.length + (lb t).length ≤ 9223372036854775807) then (bif decide ((head ++ lb t).length + (lb l).length ≤ 9223372036854775807) then (bif decide (((head ++ lb t) ++ lb l).length + (mid f u c.length).length ≤ 9223372036854775807) then (bif decide ((((head ++ lb t) ++ lb l) ++ mid f u c.length).length + c.length ≤ 9223372036854775807) then ((F39 n [0] 16).bind fun y_6 => bif decide (((((head ++ lb t) ++ lb l) ++ mid f u c.length) ++ c).length + y_6.length ≤ 9223372036854775807) then (bif subB ((((((head ++ lb t) ++ lb l) ++ mid f u c.length) ++ c) ++ y_6).length) none (some 31) then some ((((((head ++ lb t) ++ lb l) ++ mid f u c.length) ++ c) ++ y_6).take 31, 0) else none) else none) else none) else none) else none) else none) = some (wtext t l f u c, (0 : Int)) := by
    rw [decide_eq_true (by rw [lb_len]; decide), decide_eq_true (by rw [h1, lb_len]; omega), decide_eq_true (by rw [h2, mid_len]; omega), decide_eq_true (by rw [h3]; omega), rz]
    simp only [cond_true, Option.bind_some]
    rw [h4, decide_eq_true (by simp [zeros]; omega), List.length_append, h4, show subB (15 + c.length + (zeros 16).length) none (some 31) = true by simp [subB, zeros]; omega, List.take_append, h4, List.take_of_length_le (by rw [h4]; omega), show 31 - (15 + c.length) = 16 - c.length by omega]
    have : (zeros 16).take (16 - c.length) = zeros (16 - c.length) := by
      unfold zeros
      rw [List.take_replicate, Nat.min_eq_left (by omega)]
    rw [this]; rfl
  exact r0
theorem wrapR (n : Nat) (hn : 100 < n) (t l : Int) (b : Bool) (u : Int) (c : Tx) : F45 n t l b u c = some (wrapV t l b u c) := by
  have jt : F45_j3 n t l b u c true = some ([], 1) := rfl
  have no : ¬ wgood t l u c → some (([] : Tx), (1 : Int)) = some (wrapV t l b u c) := fun h => by unfold wrapV; rw [if_neg h]
  unfold F45
  rw [longR n hn, longR n hn, betC, betC]
  simp only [Option.bind_some, jt]
  by_cases q1 : 0 ≤ t ∧ t ≤ 4294967295
  · rw [decide_eq_true q1]
    by_cases q2 : 0 ≤ l ∧ l ≤ 4294967295
    · rw [decide_eq_true q2]
      by_cases q3 : 0 ≤ u ∧ u ≤ 15
      · rw [decide_eq_true q3]
        by_cases q4 : 1 ≤ ((c.length : Nat) : Int) ∧ ((c.length : Nat) : Int) ≤ 16
        · rw [decide_eq_true q4]
          simp only [Bool.not_true, cond_false]
          unfold F45_j3 wrapV
          rw [if_pos (show wgood t l u c from ⟨q1, q2, q3, by omega⟩)]
          cases b
          · exact docJ n (by omega) t l u c (by omega) q1 q2 q3 0 (.inl rfl)
          · exact docJ n (by omega) t l u c (by omega) q1 q2 q3 128 (.inr rfl)
        · rw [decide_eq_false q4]; exact no (fun h => by have := h.2.2.2; omega)
      · rw [decide_eq_false q3]; exact no (fun h => q3 h.2.2.1)
    · rw [decide_eq_false q2]; exact no (fun h => q2 h.2.1)
  · rw [decide_eq_false q1]; exact no (fun h => q1 h.1)
end Go.Proofs.Ytbodjbpgdkkohaa
