/- GadgetSays, in plain Lean: the law. -/
import Derived.Test.YtnibbbmjjdkkgaaSGad2
namespace Go.Proofs.Ytnibbbmjjdkkgaa
open Go Go.RowKit
set_option linter.unusedVariables false

section
variable (u c s p m v r l k a z g cv cn ca cp : Int) (F : List CFace) (T : List Tx)
theorem haltBitS (n : Nat) (st ad : Int) (h : Nat) (hh : h < 4294967296) (K : Int) (hK : K = 2 ∨ K = 3) (av al ai : Int) (b : Nat) (b4 : b < 32) (x : Int) (hx : x = ((2 ^ b : Nat) : Int)) :
    ∃ q, F14_j33 n st ad (h : Int) (K, av, ai, al, 0) x = some q ∧ (bif (x != 0) then (bif (((IntKind.wrap .i64 ((h : Int).tdiv x)).tmod 2) == 1) then (bif (K == 2) then (F15_j8 n st ad (h : Int) (K, av, ai, al, 0) (x, true) (IntKind.wrap .i64 ((h : Int) - x))) else (F15_j8 n st ad (h : Int) (K, av, ai, al, 0) (x, true) (h : Int))) else (bif (!(((IntKind.wrap .i64 ((h : Int).tdiv x)).tmod 2) == 1)) then (bif (K == 3) then (F15_j10 n st ad (IntKind.wrap .i64 ((h : Int) + x))) else (F15_j10 n st ad (h : Int))) else (some (st, ad, (h : Int), ([] : List UInt8), 0)))) else none) = some q := by
  have hpos : 0 < 2 ^ b := Nat.pow_pos (by omega)
  have hlt : (2 : Nat) ^ b < 2 ^ 32 := Nat.pow_lt_pow_right (by omega) b4
  have hon := bit_on h b hh b4
  have hoff := bit_off h b hh b4
  rw [← hx] at hon hoff
  have hx0 : 0 < x ∧ x < 4294967296 := by omega
  have hle : h / 2 ^ b % 2 = 1 → x ≤ (h : Int) := by
    intro hb
    have h1 : 1 ≤ h / 2 ^ b := Nat.pos_of_ne_zero fun hz => by rw [hz] at hb; exact absurd hb (by decide)
    have h2 : 2 ^ b ≤ h := (Nat.le_div_iff_mul_le hpos).1 h1 |> fun x => by simpa using x
    omega
  have hq : (IntKind.wrap .i64 ((h : Int).tdiv x)).tmod 2 = ((h / 2 ^ b % 2 : Nat) : Int) := by
    have := Nat.div_le_self h (2 ^ b)
    rw [hx, tdivN, w64n _ (by omega), show (2 : Int) = ((2 : Nat) : Int) from rfl, tmodN]
  have hadd : IntKind.wrap .i64 ((h : Int) + x) = (h : Int) + x := w64 (by omega) (by omega)
  generalize h / 2 ^ b % 2 = B at hon hoff hle hq
  clear hx hpos hlt
  simp only [F14_j33, F14_j34, F14_j32, F14_j26, F15_j8, F15_j10, F15_j9, hq]
  rw [hon, hoff, show (x != 0) = true from bne_iff_ne.2 (by omega)]
  by_cases hb : B = 1
  · subst hb
    rw [if_pos rfl, if_pos rfl, w64 (n := (h : Int) - x) (by have := hle rfl; omega) (by omega)]
    rcases hK with rfl | rfl
    · exact ⟨_, rfl, rfl⟩
    · exact ⟨_, rfl, rfl⟩
  · rw [if_neg hb, if_neg hb, hadd, show (((B : Nat) : Int) == 1) = false from beq_eq_false_iff_ne.2 (by omega)]
    rcases hK with rfl | rfl
    · exact ⟨_, rfl, rfl⟩
    · exact ⟨_, rfl, rfl⟩
theorem haltsS (n : Nat) (hn : 100 < n) (hF : okF F) (st ad : Int) (h : Nat) (hh : h < 4294967296) (K : Int) (hK : K = 2 ∨ K = 3) (av al : Int) (e : Nat) :
    ∃ q, (bif (st != 2) then (F14_j32 n st ad (h : Int) (8, (h : Int))) else ((F71 n u c s p m v r l k a z g cv cn ca cp F T st ad (h : Int) (e : Int)).bind fun y_10 => (bif (!y_10) then (F14_j32 n st ad (h : Int) (8, (h : Int))) else (bif (decide (0 ≤ (IntKind.wrap .u64 ((bitsI .and .i64 (e : Int) 15))))) then (bif (decide ((e : Int) ≥ 128)) then (F14_j33 n st ad (h : Int) (K, av, (e : Int), al, 0) (shlI .i64 (shlI .i64 1 (IntKind.wrap .u64 ((bitsI .and .i64 (e : Int) 15)))) 16)) else (F14_j33 n st ad (h : Int) (K, av, (e : Int), al, 0) (shlI .i64 1 (IntKind.wrap .u64 ((bitsI .and .i64 (e : Int) 15)))))) else none)))) = some q ∧ F15_j7 n u c s p m v r l k a z g cv cn ca cp F T st ad (h : Int) (K, av, (e : Int), al, 0) true = some q := by
  simp only [F15_j7, cond_true]
  rw [hasP u c s p m v r l k a z g cv cn ca cp F T n hn hF, hasR u c s p m v r l k a z g cv cn ca cp F T n hn hF]
  simp only [Option.bind_some]
  cases hv : hasV F e with
  | false =>
    simp only [Bool.not_false, cond_true, cond_false, F41, Option.bind_some]
    cases (st != 2)
    · exact ⟨_, rfl, rfl⟩
    · exact ⟨_, rfl, rfl⟩
  | true =>
    obtain ⟨b1, b2, b3, b4⟩ := bitP e (hitV hF hv)
    have hBV : bitV e = (((2 ^ bitNo e : Nat) : Int), true) := rfl
    rw [decide_eq_true b1]
    simp only [Bool.not_true, cond_true, cond_false, F41, Option.bind_some, hBV]
    obtain ⟨X, hX⟩ : ∃ X : Int, X = ((2 ^ bitNo e : Nat) : Int) := ⟨_, rfl⟩
    rw [← hX] at b2 b3 ⊢
    obtain ⟨q, q1, q2⟩ := haltBitS n st ad h hh K hK av al (e : Int) (bitNo e) b4 X hX
    cases (st != 2)
    · simp only [cond_false]
      refine ⟨q, ?_, q2⟩
      by_cases h128 : 128 ≤ e
      · rw [decide_eq_true (show (e : Int) ≥ 128 by omega), b2 h128, cond_true]; exact q1
      · rw [decide_eq_false (show ¬ (e : Int) ≥ 128 by omega), b3 h128, cond_false]; exact q1
    · exact ⟨_, rfl, rfl⟩
theorem controlS (n : Nat) (hn : 1100000 < n) (ht : ∀ t ∈ T, t.length ≤ 1048576) (st ad ha : Int) (ask : Tx) :
    ∃ q, F14 n u c s p m v r l k a z g cv cn ca cp F T st ad ha ask = some q ∧ F15 n u c s p m v r l k a z g cv cn ca cp F T st ad ha ask = some q := by
  obtain ⟨e, he1, he2⟩ := sheetS n hn u c s p m v r l k a z g cv cn ca cp F T ht
  obtain ⟨y, y1, y2, y3⟩ := Sa.askS n (by omega) ask
  unfold F14 F15
  rw [he1, he2, validP, validR n (by omega), y1, y2]
  simp only [Option.bind_some]
  by_cases h0 : e = 0
  rotate_left
  · rw [show (e != 0) = true from bne_iff_ne.2 h0]; exact ⟨_, rfl, rfl⟩
  subst h0
  obtain ⟨o1, o2, o3, o4⟩ := sheetOK u c s p m v r l k a z g cv cn ca cp F T n hn ht he1
  obtain ⟨o5, hF⟩ := conf_ok cv cn ca cp F o2
  rw [show ((0 : Int) != 0) = false from rfl]
  simp only [cond_false]
  cases hV : validV st ad ha with
  | false => exact ⟨_, rfl, rfl⟩
  | true =>
  obtain ⟨f1, f2, f3⟩ := valid_facts hV
  simp only [Bool.not_true, cond_false]
  rcases y3 with y3 | ⟨ak, av, ai, al, h1, h14, hv, hi, hl, rfl⟩
  · rw [show (y.2.2.2.2 != 0) = true from bne_iff_ne.2 y3]; exact ⟨_, rfl, rfl⟩
  simp only [show ((0 : Int) != 0) = false from rfl, cond_false]
  by_cases h8 : 8 ≤ ak
  · rw [decide_eq_true (show (ak : Int) ≥ 8 by omega), show ((ak : Int) == 1) = false from beq_eq_false_iff_ne.2 (by omega), show ((ak : Int) == 5) = false from beq_eq_false_iff_ne.2 (by omega), show ((ak : Int) == 4) = false from beq_eq_false_iff_ne.2 (by omega), show ((ak : Int) == 6) = false from beq_eq_false_iff_ne.2 (by omega), show ((ak : Int) == 7) = false from beq_eq_false_iff_ne.2 (by omega), show ((ak : Int) == 2) = false from beq_eq_false_iff_ne.2 (by omega), show ((ak : Int) == 3) = false from beq_eq_false_iff_ne.2 (by omega)]
    exact ⟨_, rfl, rfl⟩
  have hj26 : ∀ (t : Tx) (x m1 m2 m3 : Int), F14_j26 n st ad ha (t, x, m1, m2, m3) = bif (x != 0) then some (st, ad, ha, [], x) else some (m1, m2, m3, t, 0) := fun _ _ _ _ _ => rfl
  generalize hK : (ak : Int) = K
  rw [decide_eq_false (show ¬ K ≥ 8 by omega)]
  simp only [cond_false]
  rcases (show K = 1 ∨ K = 5 ∨ K = 4 ∨ K = 6 ∨ K = 7 ∨ (K = 2 ∨ K = 3) by omega) with rfl | rfl | rfl | rfl | rfl | h23
  · exact ⟨_, rfl, rfl⟩
  · simp only [show ((5 : Int) == 1) = false from rfl, show ((5 : Int) == 5) = true from rfl, cond_false, cond_true]
    obtain ⟨t, ok, d1, d2, d3⟩ := descS u c s p m v r l k a z g cv cn ca cp F T n hn ht o1 o2 o3 o4 st ad ha av hv
    rw [d1, d2]
    simp only [Option.bind_some, hj26]
    cases ok with
    | false =>
      obtain rfl := d3 rfl
      have hm : (if (al : Int) < ((([] : Tx).length : Nat) : Int) then (al : Int) else ((([] : Tx).length : Nat) : Int)) = 0 := by rw [if_neg (by simp)]; rfl
      rw [hm]
      exact ⟨_, rfl, rfl⟩
    | true =>
      simp only [Bool.not_true, cond_false, cond_true, show ((0 : Int) != 0) = false from rfl, F15_j6]
      by_cases hc : (al : Int) < ((t.length : Nat) : Int)
      · rw [if_pos hc, decide_eq_true (show ((t.length : Nat) : Int) > (al : Int) from hc), show subB t.length none (some (al : Int)) = true by simp [subB]; omega]
        exact ⟨_, rfl, rfl⟩
      · rw [if_neg hc, decide_eq_false (show ¬ ((t.length : Nat) : Int) > (al : Int) from hc), show subB t.length none (some ((t.length : Nat) : Int)) = true by simp [subB]]
        simp only [cond_true, cond_false, Int.toNat_natCast, List.take_length]
        exact ⟨_, rfl, rfl⟩
  · simp only [show ((4 : Int) == 1) = false from rfl, show ((4 : Int) == 5) = false from rfl, show ((4 : Int) == 4) = true from rfl, cond_false, cond_true, hj26]
    by_cases h2 : st = 2
    · subst h2; exact ⟨_, rfl, rfl⟩
    · rw [show (st == 2) = false from beq_eq_false_iff_ne.2 h2, f3 h2]
      by_cases h0 : av = 0
      · subst h0; exact ⟨_, rfl, rfl⟩
      · rw [show ((av : Int) == 0) = false from beq_eq_false_iff_ne.2 (by omega), if_neg (show ¬ (av : Int) < 1 by omega)]
        exact ⟨_, rfl, rfl⟩
  · simp only [show ((6 : Int) == 1) = false from rfl, show ((6 : Int) == 5) = false from rfl, show ((6 : Int) == 4) = false from rfl, show ((6 : Int) == 6) = true from rfl, cond_false, cond_true]
    cases (st == 0)
    · cases ((av : Int) == 0)
      · cases ((av : Int) == cv)
        · exact ⟨_, rfl, rfl⟩
        · exact ⟨_, rfl, rfl⟩
      · exact ⟨_, rfl, rfl⟩
    · exact ⟨_, rfl, rfl⟩
  · simp only [show ((7 : Int) == 1) = false from rfl, show ((7 : Int) == 5) = false from rfl, show ((7 : Int) == 4) = false from rfl, show ((7 : Int) == 6) = false from rfl, show ((7 : Int) == 7) = true from rfl, cond_false, cond_true]
    rcases (show st = 0 ∨ st = 1 ∨ st = 2 by omega) with rfl | rfl | rfl
    · exact ⟨_, rfl, rfl⟩
    · have e1 : IntKind.wrap .i64 (cv * IntKind.wrap .i64 ((1 : Int) - 1)) = 0 := by
        rw [show IntKind.wrap .i64 ((1 : Int) - 1) = 0 from by decide, Int.mul_zero]; decide
      rw [e1, bytesR n [0] (by simp; omega) (by simp)]
      exact ⟨_, rfl, rfl⟩
    · have e1 : IntKind.wrap .i64 (cv * IntKind.wrap .i64 ((2 : Int) - 1)) = cv := by
        rw [show IntKind.wrap .i64 ((2 : Int) - 1) = 1 from by decide, Int.mul_one]; exact w64 (by omega) (by omega)
      rw [e1, bytesR n [cv] (by simp; omega) (by simp), if_pos (by simp only [allIn_cons, allIn_nil, and_true]; omega)]
      exact ⟨_, rfl, rfl⟩
  · obtain ⟨h, rfl⟩ : ∃ h : Nat, ha = (h : Int) := ⟨ha.toNat, by omega⟩
    obtain ⟨q, q1, q2⟩ := haltsS u c s p m v r l k a z g cv cn ca cp F T n (by omega) hF st ad h (by omega) K h23 (av : Int) (al : Int) ai
    refine ⟨q, ?_, ?_⟩
    · rw [← q1]
      rcases h23 with rfl | rfl <;> rfl
    · rw [← q2]
      rcases h23 with rfl | rfl <;> rfl
theorem saysS (n : Nat) (hn : 1100000 < n) (ht : ∀ t ∈ T, t.length ≤ 1048576) (st ad ha : Int) (ask : Tx) : F6 n u c s p m v r l k a z g cv cn ca cp F T st ad ha ask = some true := by
  obtain ⟨q, q1, q2⟩ := controlS u c s p m v r l k a z g cv cn ca cp F T n hn ht st ad ha ask
  unfold F6
  rw [q1, q2]
  simp only [Option.bind_some, Sh.beq_self, cond_true, BEq.rfl]
end
theorem sumL_mem {α : Type} (f : α → Nat) : ∀ (l : List α) (x : α), x ∈ l → f x ≤ sumL f l
  | y :: l, x, h => by
    simp only [sumL]
    rcases List.mem_cons.1 h with rfl | h
    · omega
    · have := sumL_mem f l x h; omega
theorem gadgetSays_says (a0 : Sh.T (.st (.pair (.st (.pair (.int .i64) (.pair (.int .i64) (.pair (.int .i64) (.pair (.int .i64) (.pair (.int .i64) (.pair (.int .i64) (.pair (.int .i64) (.pair (.int .i64) (.pair (.int .i64) (.pair (.int .i64) (.pair (.int .i64) (.int .i64))))))))))))) (.pair (.st (.pair (.int .i64) (.pair (.int .i64) (.pair (.int .i64) (.pair (.int .i64) (.sl (.st (.pair (.int .i64) (.pair (.int .i64) (.pair (.int .i64) (.pair (.int .i64) (.pair (.sl .str) (.sl (.st (.pair (.int .i64) (.pair .bool (.pair (.int .i64) (.pair (.int .i64) (.int .i64))))))))))))))))))) (.sl .str))))) (g0 : Sh.good (.st (.pair (.st (.pair (.int .i64) (.pair (.int .i64) (.pair (.int .i64) (.pair (.int .i64) (.pair (.int .i64) (.pair (.int .i64) (.pair (.int .i64) (.pair (.int .i64) (.pair (.int .i64) (.pair (.int .i64) (.pair (.int .i64) (.int .i64))))))))))))) (.pair (.st (.pair (.int .i64) (.pair (.int .i64) (.pair (.int .i64) (.pair (.int .i64) (.sl (.st (.pair (.int .i64) (.pair (.int .i64) (.pair (.int .i64) (.pair (.int .i64) (.pair (.sl .str) (.sl (.st (.pair (.int .i64) (.pair .bool (.pair (.int .i64) (.pair (.int .i64) (.int .i64))))))))))))))))))) (.sl .str)))) a0) (u0 : Sh.bulk (.st (.pair (.st (.pair (.int .i64) (.pair (.int .i64) (.pair (.int .i64) (.pair (.int .i64) (.pair (.int .i64) (.pair (.int .i64) (.pair (.int .i64) (.pair (.int .i64) (.pair (.int .i64) (.pair (.int .i64) (.pair (.int .i64) (.int .i64))))))))))))) (.pair (.st (.pair (.int .i64) (.pair (.int .i64) (.pair (.int .i64) (.pair (.int .i64) (.sl (.st (.pair (.int .i64) (.pair (.int .i64) (.pair (.int .i64) (.pair (.int .i64) (.pair (.sl .str) (.sl (.st (.pair (.int .i64) (.pair .bool (.pair (.int .i64) (.pair (.int .i64) (.int .i64))))))))))))))))))) (.sl .str)))) a0 ≤ 1048576) (a1 : Sh.T (.st (.pair (.int .i64) (.pair (.int .i64) (.int .i64))))) (g1 : Sh.good (.st (.pair (.int .i64) (.pair (.int .i64) (.int .i64)))) a1) (u1 : Sh.bulk (.st (.pair (.int .i64) (.pair (.int .i64) (.int .i64)))) a1 ≤ 1048576) (a2 : Sh.T .str) (g2 : Sh.good .str a2) (u2 : Sh.bulk .str a2 ≤ 1048576) :
    ∃ n, F6 n a0.1.1 a0.1.2.1 a0.1.2.2.1 a0.1.2.2.2.1 a0.1.2.2.2.2.1 a0.1.2.2.2.2.2.1 a0.1.2.2.2.2.2.2.1 a0.1.2.2.2.2.2.2.2.1 a0.1.2.2.2.2.2.2.2.2.1 a0.1.2.2.2.2.2.2.2.2.2.1 a0.1.2.2.2.2.2.2.2.2.2.2.1 a0.1.2.2.2.2.2.2.2.2.2.2.2 a0.2.1.1 a0.2.1.2.1 a0.2.1.2.2.1 a0.2.1.2.2.2.1 a0.2.1.2.2.2.2 a0.2.2 a1.1 a1.2.1 a1.2.2 a2 = some true := by
  have ht : ∀ t ∈ a0.2.2, t.length ≤ 1048576 := by
    intro t ht
    have h1 := sumL_mem (Sh.bulk .str) a0.2.2 t ht
    have h2 : t.length + 1 ≤ sumL (Sh.bulk .str) a0.2.2 := h1
    simp only [Sh.bulk] at u0
    have h3 : sumL (fun x : Sh.T .str => x.length + 1) a0.2.2 = sumL (Sh.bulk .str) a0.2.2 := rfl
    omega
  exact ⟨3000000, saysS a0.1.1 a0.1.2.1 a0.1.2.2.1 a0.1.2.2.2.1 a0.1.2.2.2.2.1 a0.1.2.2.2.2.2.1 a0.1.2.2.2.2.2.2.1 a0.1.2.2.2.2.2.2.2.1 a0.1.2.2.2.2.2.2.2.2.1 a0.1.2.2.2.2.2.2.2.2.2.1 a0.1.2.2.2.2.2.2.2.2.2.2.1 a0.1.2.2.2.2.2.2.2.2.2.2.2 a0.2.1.1 a0.2.1.2.1 a0.2.1.2.2.1 a0.2.1.2.2.2.1 a0.2.1.2.2.2.2 a0.2.2 3000000 (by omega) ht a1.1 a1.2.1 a1.2.2 a2⟩
end Go.Proofs.Ytnibbbmjjdkkgaa
