/- The laws of the pipe, in plain Lean. -/
import Derived.Test.YtbeilpecdimheaaFp
import Derived.Test.YtbeilpecdimheaaAm23
namespace Go.Proofs.Ytbeilpecdimheaa
open Go Go.RowKit
set_option linter.unusedVariables false

abbrev Txt := List (List UInt8)
def bit1 (x : Int) : Bool := x == 0 || x == 1
def fateB (x : Int) : Bool := decide (1 ≤ x) && decide (x ≤ 5)
theorem pf66 (n : Nat) (a b c : Int) : F66 n a b c = some (decide (b ≤ a) && decide (a ≤ c)) := by
  unfold F66
  by_cases h : b ≤ a <;> simp [h]
theorem pf77 (n : Nat) (x : Int) : F77 n x = some (bit1 x) := by
  unfold F77 bit1
  cases x == 0 <;> rfl
theorem pf66b (n : Nat) (x : Int) : F66 n x 0 1 = some (bit1 x) := by
  rw [pf66]
  congr 1
  unfold bit1
  by_cases h0 : x = 0
  · subst h0; rfl
  · by_cases h1 : x = 1
    · subst h1; rfl
    · have : ¬ (0 ≤ x ∧ x ≤ 1) := by omega
      have e : (decide (0 ≤ x) && decide (x ≤ 1)) = false := by rw [← Bool.not_eq_true, Bool.and_eq_true, decide_eq_true_eq, decide_eq_true_eq]; exact this
      rw [e, beq_eq_false_iff_ne.2 h0, beq_eq_false_iff_ne.2 h1]; rfl
theorem pf78 (n : Nat) (x : Int) : F78 n x = some (fateB x) := by
  unfold F78 fateB
  by_cases h : x ≥ 1 <;> simp [h]
theorem pf80 (n : Nat) (x : Int) : F80 n x = some (fateB x) := by
  unfold F80 fateB
  rw [pf66]; rfl
theorem pf79 (n : Nat) (s : Txt) (h : s.length ≤ 17179869184) : F79 n s = some s := by
  unfold F79
  rw [decide_eq_true (by simpa using h)]; rfl
theorem step_same (n : Nat) (a b : Int) (L G : Txt) (f : Int) : ∃ x y e l g, F37 n a b L G f = some (x, y, e, l, g) ∧ F38 n a b L G f = some (x, y, l, e, g) ∧ l.length ≤ 200 ∧ g.length ≤ 201 := by
  unfold F37 F38
  simp only [pf77, pf66b, pf78, pf80, Option.bind_some]
  cases bit1 a
  · exact ⟨_, _, _, _, _, rfl, rfl, by simp, by simp⟩
  cases bit1 b
  · exact ⟨_, _, _, _, _, rfl, rfl, by simp, by simp⟩
  cases fateB f
  · exact ⟨_, _, _, _, _, rfl, rfl, by simp, by simp⟩
  simp only [Bool.not_true, cond_false, F37_j4, F38_j5]
  by_cases h1 : ((L.length : Nat) : Int) > 200
  · rw [decide_eq_true h1]; exact ⟨_, _, _, _, _, rfl, rfl, by simp, by simp⟩
  rw [decide_eq_false h1]
  by_cases h2 : ((G.length : Nat) : Int) > 200
  · rw [decide_eq_true h2]; exact ⟨_, _, _, _, _, rfl, rfl, by simp, by simp⟩
  rw [decide_eq_false h2]
  simp only [cond_false]
  rw [pf79 n L (by omega), pf79 n G (by omega)]
  simp only [Option.bind_some]
  have k1 : G.length + [L.getD 0 []].length ≤ 17179869184 := by simp; omega
  by_cases h0 : L.length = 0
  · have e1 : (((L.length : Nat) : Int) == 0) = true := by simp [h0]
    have e2 : decide (((L.length : Nat) : Int) > 0) = false := by simp [h0]
    have hL : L = [] := List.length_eq_zero_iff.1 h0
    subst hL
    rw [e1, e2]
    cases f == 1 <;> exact ⟨_, _, _, _, _, rfl, rfl, by simp, by omega⟩
  · have e1 : (((L.length : Nat) : Int) == 0) = false := by simpa using h0
    have e2 : decide (((L.length : Nat) : Int) > 0) = true := by simp; omega
    have k2 : subB L.length (some 1) none = true := by simp [subB]; omega
    have k3 : inb 0 L.length = true := inb_true (by omega) (by omega)
    rw [e1, e2]
    simp only [cond_false, cond_true, F37_j5, F37_j6, F38_j6, F38_j7, F38_j8, e2, k2, k3, decide_eq_true k1, bne]
    by_cases hf : f = 1
    · subst hf
      simp only [BEq.rfl, Bool.not_true, cond_false, cond_true]
      rw [pf79 n (L.drop 1) (by simp; omega)]
      cases a == b
      · exact ⟨_, _, _, _, _, rfl, rfl, by simp; omega, by omega⟩
      · exact ⟨_, _, _, _, _, rfl, rfl, by simp; omega, by simp; omega⟩
    · have hf' : (f == 1) = false := by simpa using hf
      rw [hf']
      simp only [Bool.not_false, cond_true, cond_false]
      cases f == 3 <;> cases a == b
      · exact ⟨_, _, _, _, _, rfl, rfl, by omega, by omega⟩
      · exact ⟨_, _, _, _, _, rfl, rfl, by omega, by omega⟩
      · exact ⟨_, _, _, _, _, rfl, rfl, by omega, by omega⟩
      · exact ⟨_, _, _, _, _, rfl, rfl, by omega, by simp; omega⟩
theorem pf28 (n : Nat) (l : Txt) (hl : l.length ≤ 2000) (hn : 2001 < n) : F28 n l l = some true := by
  unfold F28
  simp only [bne_self_eq_false, cond_false]
  obtain ⟨r, h1, h2⟩ := loopF_post (F28_l2 n l l) (fun x => 0 ≤ x ∧ x ≤ (l.length : Int)) (fun x r => r = true) (fun x => ((l.length : Int) - x).toNat) (by
    rintro k x ⟨hx0, hx1⟩ ih
    simp only [F28_l2]
    by_cases hx : x < (l.length : Int)
    · rw [decide_eq_true hx, inb_true hx0 hx, w64 (n := x + 1) (by omega) (by omega)]
      obtain ⟨r, i1, i2⟩ := ih (x + 1) ⟨by omega, by omega⟩ (by omega)
      exact ⟨r, by simpa using i1, i2⟩
    · rw [decide_eq_false hx]
      exact ⟨true, rfl, rfl⟩) n 0 ⟨by omega, by omega⟩ (by omega)
  rw [h1, h2]
theorem pf40 (n : Nat) (a b : Int) (L G : Txt) (hL : L.length ≤ 2000) (hG : G.length ≤ 2000) (hn : 2001 < n) : F40 n a b L G a b L G = some true := by
  unfold F40
  rw [pf28 n L hL hn, pf28 n G hG hn]
  simp
theorem pipeSteps_says (a0 : Int × Int × Txt × Txt) (g0 : Sh.good (.st (.pair (.int .i64) (.pair (.int .i64) (.pair (.sl .str) (.sl .str))))) a0) (a1 : Int) (g1 : Sh.good (.int .i64) a1) (a2 : Txt) (g2 : Sh.good (.sl .str) a2) : ∃ n, F11 n a0.1 a0.2.1 a0.2.2.1 a0.2.2.2 a1 a2 = some true := by
  obtain ⟨x, y, e, l, g, h1, h2, h3, h4⟩ := step_same 3000 a0.1 a0.2.1 a0.2.2.1 a0.2.2.2 a1
  refine ⟨3000, ?_⟩
  unfold F11 F39
  rw [h1, h2]
  simp only [Option.bind_some]
  rw [pf40 3000 x y l g (by omega) (by omega) (by omega)]
  by_cases ht : ((a2.length : Nat) : Int) > 200
  · rw [decide_eq_true ht]
    simp only [cond_true, Option.bind_some, BEq.rfl]
    rw [pf40 3000 0 0 [] [] (by simp) (by simp) (by omega)]
    rfl
  · rw [decide_eq_false ht, pf79 3000 a2 (by omega)]
    simp only [cond_false, cond_true, Option.bind_some, BEq.rfl]
    rw [pf28 3000 a2 (by omega) (by omega), pf40 3000 0 0 a2 [] (by omega) (by simp) (by omega)]
    rfl
theorem bit1_ok {a : Int} (h : bit1 a = true) : a = 0 ∨ a = 1 := by
  unfold bit1 at h
  simpa using h
theorem pf37 (n : Nat) (a b : Int) (L G : Txt) (f : Int) (ha : bit1 a = true) (hb : bit1 b = true) (hL : L.length ≤ 200) (hG : G.length ≤ 200) :
    F37 n a b L G f = some (if fateB f = false then (0, 0, 1, [], []) else if L.length = 0 ∨ (f ≠ 1 ∧ f ≠ 3) then (a, b, 0, L, G) else if f = 1 then (if a = b then (1 - a, 1 - b, 0, L.drop 1, G ++ [L.getD 0 []]) else (1 - a, b, 0, L.drop 1, G)) else if a = b then (a, 1 - b, 0, L, G ++ [L.getD 0 []]) else (a, b, 0, L, G)) := by
  have ha' := bit1_ok ha
  have hb' := bit1_ok hb
  have wa : IntKind.wrap .i64 (1 - a) = 1 - a := w64 (by omega) (by omega)
  have wb : IntKind.wrap .i64 (1 - b) = 1 - b := w64 (by omega) (by omega)
  unfold F37
  simp only [pf77, pf78, Option.bind_some, ha, hb, Bool.not_true, cond_false, F37_j4]
  cases hf : fateB f
  · rfl
  rw [decide_eq_false (show ¬ ((L.length : Nat) : Int) > 200 by omega), decide_eq_false (show ¬ ((G.length : Nat) : Int) > 200 by omega), pf79 n L (by omega), pf79 n G (by omega)]
  simp only [Option.bind_some, Bool.not_true, cond_false, Bool.true_eq_false, if_false]
  by_cases h0 : L.length = 0
  · have e1 : (((L.length : Nat) : Int) == 0) = true := by simp [h0]
    rw [e1, if_pos (.inl h0)]
    rfl
  · have e1 : (((L.length : Nat) : Int) == 0) = false := by simpa using h0
    have k1 : G.length + [L.getD 0 []].length ≤ 17179869184 := by simp; omega
    have k2 : subB L.length (some 1) none = true := by simp [subB]; omega
    have k3 : inb 0 L.length = true := inb_true (by omega) (by omega)
    rw [e1]
    simp only [cond_false, F37_j5, F37_j6, bne, k2, k3, decide_eq_true k1, wa, wb, cond_true]
    by_cases h1 : f = 1
    · subst h1
      rw [if_neg (by omega), if_pos rfl, pf79 n (L.drop 1) (by simp; omega)]
      by_cases hab : a = b
      · rw [if_pos hab, hab]; simp
      · rw [if_neg hab, show (a == b) = false by simpa using hab]; simp
    · have f1 : (f == 1) = false := by simpa using h1
      rw [f1]
      by_cases h3 : f = 3
      · subst h3
        rw [if_neg (by omega), if_neg h1]
        by_cases hab : a = b
        · rw [if_pos hab, hab]; simp
        · rw [if_neg hab, show (a == b) = false by simpa using hab]; simp
      · have f3 : (f == 3) = false := by simpa using h3
        rw [f3, if_pos (.inr ⟨h1, h3⟩)]
        rfl
theorem bit1_par (k : Nat) : bit1 ((k % 2 : Nat) : Int) = true := by
  have : k % 2 = 0 ∨ k % 2 = 1 := by omega
  rcases this with h | h <;> rw [h] <;> rfl
def PIn (texts : Txt) (fates : List Int) (d : Int × Int × Int × Txt × Txt) (d' : Int × Int × Int) : Prop :=
  ∃ told got x : Nat, d = ((x : Int), ((told % 2 : Nat) : Int), ((got % 2 : Nat) : Int), texts.drop told, texts.take got) ∧ d' = ((told : Int), (got : Int), (x : Int)) ∧ (got = told ∨ got = told + 1) ∧ got ≤ texts.length ∧ x ≤ fates.length
def POut (r : Int × Int × Int × Txt × Txt) (r' : Int × Int × Txt × Txt × Int) : Prop :=
  ∃ a b e L G, r = (a, b, e, L, G) ∧ r' = (a, b, L, G, e) ∧ L.length ≤ 200 ∧ G.length ≤ 200
theorem take_next (l : Txt) (k : Nat) (h : k < l.length) : l.take k ++ [(l.drop k).getD 0 []] = l.take (k + 1) := by
  rw [List.take_succ_eq_append_getElem h]
  congr 2
  simp [List.getD_eq_getElem?_getD, List.getElem?_drop, List.getElem?_eq_getElem h]
theorem run_same (n : Nat) (texts : Txt) (fates : List Int) (ht : texts.length ≤ 200) (hf : fates.length ≤ 1000) (m m' : Nat) (hm : 1001 < m) (hm' : 1001 < m') :
    ∃ r r', loopF (F47_l2 n fates) m (0, 0, 0, texts, []) = some r ∧ loopF (F48_l2 n texts fates) m' (0, 0, 0) = some r' ∧ POut r r' := by
  refine loopF_rel (F47_l2 n fates) (F48_l2 n texts fates) (PIn texts fates) POut (fun d => fates.length - d.1.toNat) ?_ m m' (0, 0, 0, texts, []) (0, 0, 0) ⟨0, 0, 0, rfl, rfl, .inl rfl, by omega, by omega⟩ (by simp; omega) (by simp; omega)
  rintro k k' d d' ⟨told, got, x, rfl, rfl, hg, hgl, hx⟩ ih
  simp only [F47_l2, F48_l2]
  by_cases hlt : x < fates.length
  · rw [decide_eq_true (show (x : Int) < (fates.length : Int) by omega), inb_true (show (0 : Int) ≤ x by omega) (show (x : Int) < fates.length by omega)]
    simp only [cond_true]
    generalize fates.getD (x : Int).toNat 0 = f
    have hLl : (texts.drop told).length = texts.length - told := List.length_drop
    have hGl : (texts.take got).length = got := by rw [List.length_take]; omega
    have wx : IntKind.wrap .i64 ((x : Int) + 1) = ((x + 1 : Nat) : Int) := by rw [w64 (by omega) (by omega)]; rfl
    have wt : IntKind.wrap .i64 ((told : Int) + 1) = ((told + 1 : Nat) : Int) := by rw [w64 (by omega) (by omega)]; rfl
    rw [pf37 n _ _ _ _ f (bit1_par told) (bit1_par got) (by omega) (by omega), pf80]
    simp only [Option.bind_some, wx, wt]
    cases hfb : fateB f
    · simp only [if_true, Bool.not_false, cond_true]
      exact ⟨_, _, rfl, rfl, _, _, _, _, _, rfl, rfl, by simp, by simp⟩
    · simp only [Bool.true_eq_false, if_false, Bool.not_true, cond_false]
      by_cases h0 : told < texts.length
      · rw [decide_eq_true (show (told : Int) < (texts.length : Int) by omega)]
        simp only [cond_true]
        have hz : ¬ (texts.drop told).length = 0 := by omega
        by_cases h1 : f = 1
        · subst h1
          rw [if_neg (show ¬ ((texts.drop told).length = 0 ∨ ((1 : Int) ≠ 1 ∧ (1 : Int) ≠ 3)) by omega), if_pos rfl, List.drop_drop]
          rcases hg with hg | hg
          · subst hg
            rw [if_pos rfl, take_next texts got h0]
            simp only [bne_self_eq_false, cond_false, BEq.rfl, cond_true]
            refine ih _ _ ⟨got + 1, got + 1, x + 1, ?_, rfl, .inl rfl, by omega, by omega⟩ (by simp only [Int.toNat_natCast]; omega)
            rw [show (1 : Int) - ((got % 2 : Nat) : Int) = (((got + 1) % 2 : Nat) : Int) by omega]
          · subst hg
            rw [if_neg (by omega)]
            simp only [bne_self_eq_false, cond_false, BEq.rfl, cond_true]
            refine ih _ _ ⟨told + 1, told + 1, x + 1, ?_, rfl, .inl rfl, by omega, by omega⟩ (by simp only [Int.toNat_natCast]; omega)
            rw [show (1 : Int) - ((told % 2 : Nat) : Int) = (((told + 1) % 2 : Nat) : Int) by omega]
        · have f1 : (f == 1) = false := by simpa using h1
          rw [f1]
          simp only [cond_false]
          by_cases h3 : f = 3
          · subst h3
            rw [if_neg (show ¬ ((texts.drop told).length = 0 ∨ ((3 : Int) ≠ 1 ∧ (3 : Int) ≠ 3)) by omega), if_neg h1]
            rcases hg with hg | hg
            · subst hg
              rw [if_pos rfl, take_next texts got h0]
              simp only [bne_self_eq_false, cond_false, BEq.rfl, cond_true]
              refine ih _ _ ⟨got, got + 1, x + 1, ?_, rfl, .inr rfl, by omega, by omega⟩ (by simp only [Int.toNat_natCast]; omega)
              rw [show (1 : Int) - ((got % 2 : Nat) : Int) = (((got + 1) % 2 : Nat) : Int) by omega]
            · subst hg
              rw [if_neg (by omega)]
              simp only [bne_self_eq_false, cond_false, BEq.rfl, cond_true]
              exact ih _ _ ⟨told, told + 1, x + 1, rfl, rfl, .inr rfl, by omega, by omega⟩ (by simp only [Int.toNat_natCast]; omega)
          · have f3 : (f == 3) = false := by simpa using h3
            rw [f3, if_pos (.inr ⟨h1, h3⟩)]
            simp only [bne_self_eq_false, cond_false]
            exact ih _ _ ⟨told, got, x + 1, rfl, rfl, hg, hgl, by omega⟩ (by simp only [Int.toNat_natCast]; omega)
      · rw [decide_eq_false (show ¬ (told : Int) < (texts.length : Int) by omega), if_pos (.inl (by omega))]
        simp only [bne_self_eq_false, cond_false]
        exact ih _ _ ⟨told, got, x + 1, rfl, rfl, hg, hgl, by omega⟩ (by simp only [Int.toNat_natCast]; omega)
  · rw [decide_eq_false (show ¬ (x : Int) < (fates.length : Int) by omega)]
    have s1 : subB texts.length (some (told : Int)) none = true := by simp [subB]; omega
    have s2 : subB texts.length none (some (got : Int)) = true := by simp [subB]; omega
    simp only [cond_false, s1, s2, cond_true]
    refine ⟨_, _, rfl, rfl, _, _, _, _, _, rfl, ?_, ?_, ?_⟩
    · simp only [Int.toNat_natCast]
      rw [show (told : Int).tmod 2 = ((told % 2 : Nat) : Int) by rw [Int.tmod_eq_emod_of_nonneg (by omega)]; omega, show (got : Int).tmod 2 = ((got % 2 : Nat) : Int) by rw [Int.tmod_eq_emod_of_nonneg (by omega)]; omega]
    · rw [List.length_drop]; omega
    · rw [List.length_take]; omega
theorem pipeRuns_says (a0 : Txt) (g0 : Sh.good (.sl .str) a0) (a1 : List Int) (g1 : Sh.good (.sl (.int .i64)) a1) : ∃ n, F13 n a0 a1 = some true := by
  have main : ∃ r r', F47 3000 a0 a1 = some r ∧ F48 3000 a0 a1 = some r' ∧ POut r r' := by
    unfold F47 F48 F39
    by_cases h1 : a0.length ≤ 200
    · rw [decide_eq_false (show ¬ ((a0.length : Nat) : Int) > 200 by omega), pf79 3000 a0 (by omega)]
      simp only [cond_false, Option.bind_some, bne_self_eq_false]
      by_cases h2 : a1.length ≤ 1000
      · rw [decide_eq_false (show ¬ ((a1.length : Nat) : Int) > 1000 by omega)]
        exact run_same 3000 a0 a1 h1 h2 3000 3000 (by omega) (by omega)
      · rw [decide_eq_true (show ((a1.length : Nat) : Int) > 1000 by omega)]
        exact ⟨_, _, rfl, rfl, _, _, _, _, _, rfl, rfl, by simp, by simp⟩
    · rw [decide_eq_true (show ((a0.length : Nat) : Int) > 200 by omega)]
      exact ⟨_, _, rfl, rfl, _, _, _, _, _, rfl, rfl, by simp, by simp⟩
  obtain ⟨r, r', e1, e2, a, b, e, L, G, rfl, rfl, hL, hG⟩ := main
  refine ⟨3000, ?_⟩
  unfold F13
  rw [e1, e2]
  simp only [Option.bind_some]
  rw [pf40 3000 a b L G (by omega) (by omega) (by omega)]
  simp
end Go.Proofs.Ytbeilpecdimheaa
