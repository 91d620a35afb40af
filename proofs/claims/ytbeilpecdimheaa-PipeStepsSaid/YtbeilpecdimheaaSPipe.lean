/- The laws of the pipe, in plain Lean. -/
import Derived.Test.YtbeilpecdimheaaFp
import Derived.Test.YtbeilpecdimheaaAm23
namespace Go.Proofs.Ytbeilpecdimheaa
open Go Go.RowKit
set_option linter.unusedVariables false

abbrev Txt := List (List UInt8)
def bit1 (x : Int) : Bool := x == 0 || x == 1
def fateB (x : Int) : Bool := decide (1 ≤ x) && decide (x ≤ 5)
theorem pf66 (n : Nat) (a b c : Int) : F66 n a b c = some (decide (b ≤ a) && decide (a ≤ c)) := by
  unfold F66
  by_cases h : b ≤ a <;> simp [h]
theorem pf77 (n : Nat) (x : Int) : F77 n x = some (bit1 x) := by
  unfold F77 bit1
  cases x == 0 <;> rfl
theorem pf66b (n : Nat) (x : Int) : F66 n x 0 1 = some (bit1 x) := by
  rw [pf66]
  congr 1
  unfold bit1
  by_cases h0 : x = 0
  · subst h0; rfl
  · by_cases h1 : x = 1
    · subst h1; rfl
    · have : ¬ (0 ≤ x ∧ x ≤ 1) := by omega
      have e : (decide (0 ≤ x) && decide (x ≤ 1)) = false := by rw [← Bool.not_eq_true, Bool.and_eq_true, decide_eq_true_eq, decide_eq_true_eq]; exact this
      rw [e, beq_eq_false_iff_ne.2 h0, beq_eq_false_iff_ne.2 h1]; rfl
theorem pf78 (n : Nat) (x : Int) : F78 n x = some (fateB x) := by
  unfold F78 fateB
  by_cases h : x ≥ 1 <;> simp [h]
theorem pf80 (n : Nat) (x : Int) : F80 n x = some (fateB x) := by
  unfold F80 fateB
  rw [pf66]; rfl
theorem pf79 (n : Nat) (s : Txt) (h : s.length ≤ 17179869184) : F79 n s = some s := by
  unfold F79
  rw [decide_eq_true (by simpa using h)]; rfl
theorem step_same (n : Nat) (a b : Int) (L G : Txt) (f : Int) : ∃ x y e l g, F37 n a b L G f = some (x, y, e, l, g) ∧ F38 n a b L G f = some (x, y, l, e, g) ∧ l.length ≤ 200 ∧ g.length ≤ 201 := by
  unfold F37 F38
  simp only [pf77, pf66b, pf78, pf80, Option.bind_some]
  cases bit1 a
  · exact ⟨_, _, _, _, _, rfl, rfl, by simp, by simp⟩
  cases bit1 b
  · exact ⟨_, _, _, _, _, rfl, rfl, by simp, by simp⟩
  cases fateB f
  · exact ⟨_, _, _, _, _, rfl, rfl, by simp, by simp⟩
  simp only [Bool.not_true, cond_false, F37_j4, F38_j5]
  by_cases h1 : ((L.length : Nat) : Int) > 200
  · rw [decide_eq_true h1]; exact ⟨_, _, _, _, _, rfl, rfl, by simp, by simp⟩
  rw [decide_eq_false h1]
  by_cases h2 : ((G.length : Nat) : Int) > 200
  · rw [decide_eq_true h2]; exact ⟨_, _, _, _, _, rfl, rfl, by simp, by simp⟩
  rw [decide_eq_false h2]
  simp only [cond_false]
  rw [pf79 n L (by omega), pf79 n G (by omega)]
  simp only [Option.bind_some]
  have k1 : G.length + [L.getD 0 []].length ≤ 17179869184 := by simp; omega
  by_cases h0 : L.length = 0
  · have e1 : (((L.length : Nat) : Int) == 0) = true := by simp [h0]
    have e2 : decide (((L.length : Nat) : Int) > 0) = false := by simp [h0]
    have hL : L = [] := List.length_eq_zero_iff.1 h0
    subst hL
    rw [e1, e2]
    cases f == 1 <;> exact ⟨_, _, _, _, _, rfl, rfl, by simp, by omega⟩
  · have e1 : (((L.length : Nat) : Int) == 0) = false := by simpa using h0
    have e2 : decide (((L.length : Nat) : Int) > 0) = true := by simp; omega
    have k2 : subB L.length (some 1) none = true := by simp [subB]; omega
    have k3 : inb 0 L.length = true := inb_true (by omega) (by omega)
    rw [e1, e2]
    simp only [cond_false, cond_true, F37_j5, F37_j6, F38_j6, F38_j7, F38_j8, e2, k2, k3, decide_eq_true k1, bne]
    by_cases hf : f = 1
    · subst hf
      simp only [BEq.rfl, Bool.not_true, cond_false, cond_true]
      rw [pf79 n (L.drop 1) (by simp; omega)]
      cases a == b
      · exact ⟨_, _, _, _, _, rfl, rfl, by simp; omega, by omega⟩
      · exact ⟨_, _, _, _, _, rfl, rfl, by simp; omega, by simp; omega⟩
    · have hf' : (f == 1) = false := by simpa using hf
      rw [hf']
      simp only [Bool.not_false, cond_true, cond_false]
      cases f == 3 <;> cases a == b
      · exact ⟨_, _, _, _, _, rfl, rfl, by omega, by omega⟩
      · exact ⟨_, _, _, _, _, rfl, rfl, by omega, by omega⟩
      · exact ⟨_, _, _, _, _, rfl, rfl, by omega, by omega⟩
      · exact ⟨_, _, _, _, _, rfl, rfl, by omega, by simp; omega⟩
theorem pf28 (n : Nat) (l : Txt) (hl : l.length ≤ 2000) (hn : 2001 < n) : F28 n l l = some true := by
  unfold F28
  simp only [bne_self_eq_false, cond_false]
  obtain ⟨r, h1, h2⟩ := loopF_post (F28_l2 n l l) (fun x => 0 ≤ x ∧ x ≤ (l.length : Int)) (fun x r => r = true) (fun x => ((l.length : Int) - x).toNat) (by
    rintro k x ⟨hx0, hx1⟩ ih
    simp only [F28_l2]
    by_cases hx : x < (l.length : Int)
    · rw [decide_eq_true hx, inb_true hx0 hx, w64 (n := x + 1) (by omega) (by omega)]
      obtain ⟨r, i1, i2⟩ := ih (x + 1) ⟨by omega, by omega⟩ (by omega)
      exact ⟨r, by simpa using i1, i2⟩
    · rw [decide_eq_false hx]
      exact ⟨true, rfl, rfl⟩) n 0 ⟨by omega, by omega⟩ (by omega)
  rw [h1, h2]
theorem pf40 (n : Nat) (a b : Int) (L G : Txt) (hL : L.length ≤ 2000) (hG : G.length ≤ 2000) (hn : 2001 < n) : F40 n a b L G a b L G = some true := by
  unfold F40
  rw [pf28 n L hL hn, pf28 n G hG hn]
  simp
theorem pipeSteps_says (a0 : Int × Int × Txt × Txt) (g0 : Sh.good (.st (.pair (.int .i64) (.pair (.int .i64) (.pair (.sl .str) (.sl .str))))) a0) (a1 : Int) (g1 : Sh.good (.int .i64) a1) (a2 : Txt) (g2 : Sh.good (.sl .str) a2) : ∃ n, F11 n a0.1 a0.2.1 a0.2.2.1 a0.2.2.2 a1 a2 = some true := by
  obtain ⟨x, y, e, l, g, h1, h2, h3, h4⟩ := step_same 3000 a0.1 a0.2.1 a0.2.2.1 a0.2.2.2 a1
  refine ⟨3000, ?_⟩
  unfold F11 F39
  rw [h1, h2]
  simp only [Option.bind_some]
  rw [pf40 3000 x y l g (by omega) (by omega) (by omega)]
  by_cases ht : ((a2.length : Nat) : Int) > 200
  · rw [decide_eq_true ht]
    simp only [cond_true, Option.bind_some, BEq.rfl]
    rw [pf40 3000 0 0 [] [] (by simp) (by simp) (by omega)]
    rfl
  · rw [decide_eq_false ht, pf79 3000 a2 (by omega)]
    simp only [cond_false, cond_true, Option.bind_some, BEq.rfl]
    rw [pf28 3000 a2 (by omega) (by omega), pf40 3000 0 0 a2 [] (by omega) (by simp) (by omega)]
    rfl
end Go.Proofs.Ytbeilpecdimheaa
