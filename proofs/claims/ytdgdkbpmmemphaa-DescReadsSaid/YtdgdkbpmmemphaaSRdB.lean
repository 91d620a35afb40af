/- ReadConfig: the program's way, walked on values. -/
import Derived.Test.YtdgdkbpmmemphaaSRdA
namespace Go.Proofs.Ytdgdkbpmmemphaa
open Go Go.RowKit
set_option linter.unusedVariables false

theorem wpb (d : CTx) (i : Nat) : IntKind.wrap .i64 (((d.getD i 0).toNat : Nat) : Int) = pb d i := by
  have := pb_in d i
  unfold pb at this ⊢
  exact w64 (by omega) (by omega)
theorem wpb2 (d : CTx) (i : Nat) : IntKind.wrap .i64 (pb d i) = pb d i := wpb d i
theorem epb (d : CTx) (i : Nat) : (((d.getD i 0).toNat : Nat) : Int) = pb d i := rfl
theorem atP (n : Nat) (d : CTx) (i : Nat) (h : i < d.length) : F57 n (i : Int) d = some (pb d i) := by
  unfold F57
  rw [inb_true (by omega) (by omega)]
  simp only [cond_true, Int.toNat_natCast]
  rw [wpb]
theorem wdP (n : Nat) (d : CTx) (h : 5 < d.length) : F58 n d 4 = some (pb d 4 + 256 * pb d 5) := by
  have b0 := (d.getD 4 0).toNat_lt
  have b1 := (d.getD 5 0).toNat_lt
  unfold F58
  rw [w64 (n := (4 : Int) + 1) (by omega) (by omega), inb_true (by omega) (show (4 : Int) < d.length by omega), inb_true (by omega) (show (4 : Int) + 1 < d.length by omega)]
  simp only [cond_true]
  show some (bitsI .or .i64 (IntKind.wrap .i64 (((d.getD 4 0).toNat : Nat) : Int)) (shlI .i64 (IntKind.wrap .i64 (((d.getD 5 0).toNat : Nat) : Int)) 8)) = _
  rw [w64n _ (by omega), w64n _ (by omega), show (8 : Int) = ((8 : Nat) : Int) from rfl, shl_mul _ 8 (by omega) (by omega), bOrAdd _ _ 8 (by omega) (by omega)]
  unfold pb
  congr 1
  omega
theorem wdR (n : Nat) (d : CTx) (i : Nat) (h : i + 1 < d.length) (hi : i ≤ 100) : F34 n d (i : Int) = some (pb d i + 256 * pb d (i + 1)) := by
  have b0 := pb_in d i
  have b1 := pb_in d (i + 1)
  unfold F34
  rw [w64 (n := (i : Int) + 1) (by omega) (by omega), show (i : Int) + 1 = ((i + 1 : Nat) : Int) by omega, inb_true (by omega) (show (i : Int) < d.length by omega), inb_true (by omega) (show ((i + 1 : Nat) : Int) < d.length by omega)]
  simp only [cond_true, Int.toNat_natCast, wpb]
  rw [w64 (n := 256 * pb d (i + 1)) (by omega) (by omega), w64 (by omega) (by omega)]
  congr 1
  omega
theorem and127 (d : CTx) : bitsI .and .i64 (pb d 2) 127 = pb d 2 % 128 := by
  have b0 := (d.getD 2 0).toNat_lt
  have := bMask (d.getD 2 0).toNat 7 (by omega) (by omega)
  unfold pb
  rw [show (127 : Int) = ((2 ^ 7 - 1 : Nat) : Int) from rfl, this]
  omega
def errC : Int × Int × Int × Int × List CFace × Int := (0, 0, 0, 0, [], 4)
section
variable (n : Nat) (s : CTx) (y : Int × List CTx) (K : Int × List CFace × Bool × Int × Int × Int × Int × List CTx × List CEnd → Option (Int × Int × Int × Int × List CFace × Int))
theorem addP (x : Nat) (l : List CFace) (z : Bool) (a b c e : Int) (X : List CTx) (E : List CEnd) (d : CTx) (hx : (y.2.drop 1).getD x [] = d) (h1 : x < (y.2.drop 1).length) (hx9 : x ≤ 10000) (h2 : 2 ≤ d.length)
    (hl : l.length ≤ 10000) (hX : X.length ≤ 10000) (hE : E.length ≤ 10000) (hz : z = false → l = []) :
    F13_l23 n s y K ((x : Int), l, z, a, b, c, e, X, E) = match addS (l, z, (a, b, c, e, X, E)) d with
      | none => some errC
      | some (l', z', f') => K (((x + 1 : Nat) : Int), l', z', f'.1, f'.2.1, f'.2.2.1, f'.2.2.2.1, f'.2.2.2.2.1, f'.2.2.2.2.2) := by
  have hx1 : (x : Int) < (((y.2.drop 1).length : Nat) : Int) := by omega
  have hw : IntKind.wrap .i64 ((x : Int) + 1) = ((x + 1 : Nat) : Int) := by rw [w64 (by omega) (by omega)]; omega
  have hW : IntKind.wrap .i64 (((l.length + cond z 1 0 : Nat) : Int) - 1) = ((l.length + cond z 1 0 : Nat) : Int) - 1 := w64 (by cases z <;> simp <;> omega) (by cases z <;> simp <;> omega)
  have hi1 : inb 1 d.length = true := inb_true (by omega) (by omega)
  simp only [F13_l23, decide_eq_true hx1, inb_true (Int.natCast_nonneg x) hx1, cond_true, Int.toNat_natCast, hx, hi1, epb, hW]
  have j25 : ∀ v : Bool × List CFace × Bool × Int × Int × Int × Int × List CTx × List CEnd, F13_j25 n K (x : Int) v = if v.1 = false then some errC else K (((x + 1 : Nat) : Int), v.2) := by
    rintro ⟨v1, v2, v3, v4, v5, v6, v7, v8, v9⟩
    simp only [F13_j25, hw]
    cases v1 <;> rfl
  have j26 : ∀ v, F13_j26 n K (x : Int) v = K (((x + 1 : Nat) : Int), v) := by
    rintro ⟨v2, v3, v4, v5, v6, v7, v8, v9⟩
    simp only [F13_j26, j25]
    rfl
  simp only [j25, j26]
  have kX : decide (X.length + [d].length ≤ 8796093022208) = true := decide_eq_true (by simp; omega)
  have kF : decide ((l ++ cond z [((a, b, c, e, X, E) : CFace)] []).length + 1 ≤ 1759218604441) = true := decide_eq_true (by cases z <;> simp <;> omega)
  have kE : ∀ v : CEnd, decide (E.length + [v].length ≤ 3518437208883) = true := fun v => decide_eq_true (by simp; omega)
  by_cases q : pb d 1 = 4 ∧ d.length = 9
  · obtain ⟨q4, q9⟩ := q
    have a5 := atP n d 5 (by omega)
    have a6 := atP n d 6 (by omega)
    have a7 := atP n d 7 (by omega)
    have a8 := atP n d 8 (by omega)
    simp only [Int.cast_ofNat_Int] at a5 a6 a7 a8
    rw [show (pb d 1 == 4) = true from beq_iff_eq.2 q4, show (((d.length : Nat) : Int) == 9) = true from beq_iff_eq.2 (by omega)]
    simp only [cond_true, a5, a6, a7, a8, Option.bind_some, kF, addS, List.append_nil]
    rw [if_pos ⟨q4, q9⟩]
    rfl
  · have hdup : ∀ {T : Type} (c1 c2 : Bool) (A R : T), (c1 && c2) = false → (bif c1 then (bif c2 then A else R) else R) = R := by
      intro T c1 c2 A R h
      cases c1
      · rfl
      · cases c2
        · rfl
        · cases h
    have c49 : ((pb d 1 == 4) && (((d.length : Nat) : Int) == 9)) = false := by
      rw [Bool.and_eq_false_iff]
      by_cases q4 : pb d 1 = 4
      · exact .inr (beq_eq_false_iff_ne.2 fun h => q ⟨q4, by omega⟩)
      · exact .inl (beq_eq_false_iff_ne.2 q4)
    rw [hdup _ _ _ _ c49]
    simp only [addS]
    rw [if_neg q]
    cases z with
    | false =>
      obtain rfl := hz rfl
      rfl
    | true =>
      have e1 : decide ((((l.length + cond true 1 0 : Nat) : Int) - 1) < 0) = false := decide_eq_false (by simp only [cond_true]; omega)
      have e2 : decide (((l.length + cond true 1 0 : Nat) : Int) - 1 = ((l.length : Nat) : Int)) = true := decide_eq_true (by simp only [cond_true]; omega)
      rw [e1, e2]
      simp only [cond_false, Bool.and_self, cond_true]
      rw [if_neg (show ¬ (true = false) by simp)]
      by_cases q5 : pb d 1 = 5 ∧ d.length = 7
      · have a2 := atP n d 2 (by omega)
        have a3 := atP n d 3 (by omega)
        have a6 := atP n d 6 (by omega)
        simp only [Int.cast_ofNat_Int] at a2 a3 a6
        rw [show (pb d 1 == 5) = true from beq_iff_eq.2 q5.1, show (((d.length : Nat) : Int) == 7) = true from beq_iff_eq.2 (by omega), if_pos q5]
        simp only [cond_true, a2, a3, a6, wdP n d (by omega), Option.bind_some, inb_true (show (0 : Int) ≤ 2 by omega) (show (2 : Int) < d.length by omega), kE, and127]
        rfl
      · have c57 : ((pb d 1 == 5) && (((d.length : Nat) : Int) == 7)) = false := by
          rw [Bool.and_eq_false_iff]
          by_cases q4 : pb d 1 = 5
          · exact .inr (beq_eq_false_iff_ne.2 fun h => q5 ⟨q4, by omega⟩)
          · exact .inl (beq_eq_false_iff_ne.2 q4)
        rw [hdup _ _ _ _ c57, if_neg q5]
        by_cases q6 : 6 ≤ pb d 1
        · rw [decide_eq_true (show pb d 1 ≥ 6 from q6), if_pos q6, kX]
          rfl
        · rw [decide_eq_false (show ¬ pb d 1 ≥ 6 from q6), if_neg q6]
          rfl
/-- what the program says in the end -/
def endP (s : CTx) (h : CTx) (Fs : List CFace) : Int × Int × Int × Int × List CFace × Int :=
  if confV (pb h 5) (pb h 6) (pb h 7) (pb h 8) Fs = (s, 0) then (pb h 5, pb h 6, pb h 7, pb h 8, Fs, 0) else errC
theorem addLoop (hn : 2000 < n) (hy : (y.2.drop 1).length ≤ 600) : ∀ (ds : List CTx) (i m : Nat) (l : List CFace) (z : Bool) (f : CFace), ds = (y.2.drop 1).drop i → i ≤ (y.2.drop 1).length → ds.length < m → (∀ d ∈ ds, 2 ≤ d.length) →
    l.length + ds.length ≤ 5000 → f.2.2.2.2.1.length + ds.length ≤ 5000 → f.2.2.2.2.2.length + ds.length ≤ 5000 → (z = false → l = []) →
    loopF (F13_l23 n s y) m ((i : Int), l, z, f.1, f.2.1, f.2.2.1, f.2.2.2.1, f.2.2.2.2.1, f.2.2.2.2.2) = some (match addAll (l, z, f) ds with
      | none => errC
      | some (l', z', f') => endP s (y.2.getD 0 []) (l' ++ cond z' [f'] []))
  | ds, i, 0, l, z, f, _, _, hm, _, _, _, _, _ => by omega
  | [], i, m + 1, l, z, f, hds, hi, hm, _, _, _, _, _ => by
    have hil : (y.2.drop 1).length ≤ i := List.drop_eq_nil_iff.1 hds.symm
    have hnot : ¬ (i : Int) < (((y.2.drop 1).length : Nat) : Int) := by omega
    simp only [loopF, F13_l23, decide_eq_false hnot, cond_false, addAll, wpb]
    rw [confP n (by omega)]
    simp only [Option.bind_some, endP]
    generalize confV (pb (y.2.getD 0 []) 5) (pb (y.2.getD 0 []) 6) (pb (y.2.getD 0 []) 7) (pb (y.2.getD 0 []) 8) (l ++ cond z [(f.1, (f.2.1, (f.2.2.1, (f.2.2.2.1, (f.2.2.2.2.1, f.2.2.2.2.2)))))] []) = v at *
    obtain ⟨t, e⟩ := v
    by_cases he : e = 0
    · subst he
      simp only [bne_self_eq_false, cond_false]
      by_cases ht : t = s
      · subst ht
        simp
      · rw [show (t == s) = false from beq_eq_false_iff_ne.2 ht, if_neg (by simp [ht])]
        rfl
    · rw [show (e != 0) = true from bne_iff_ne.2 he, if_neg (by simp [he])]
      rfl
  | d :: ds, i, m + 1, l, z, f, hds, hi, hm, hg, hl, hX, hE, hz => by
    have hilt : i < (y.2.drop 1).length := by
      rcases Nat.lt_or_ge i (y.2.drop 1).length with h | h
      · exact h
      · rw [List.drop_eq_nil_of_le h] at hds; cases hds
    have hdd : (y.2.drop 1).getD i [] = d := by
      have := dropC (y.2.drop 1) i [] hilt
      rw [← hds] at this
      exact (List.cons.inj this).1.symm
    have hrest : ds = (y.2.drop 1).drop (i + 1) := by
      have := dropC (y.2.drop 1) i [] hilt
      rw [← hds] at this
      exact (List.cons.inj this).2
    obtain ⟨a, b, c, e, X, E⟩ := f
    simp only [List.length_cons] at hl hX hE hm
    have hst := addP n s y (loopF (F13_l23 n s y) m) i l z a b c e X E d hdd hilt (by omega) (hg d (List.mem_cons_self ..)) (by omega) (by omega) (by omega) hz
    rw [loopF, hst]
    simp only [addAll]
    have step : ∀ l' z' (f' : CFace), addS (l, z, (a, b, c, e, X, E)) d = some (l', z', f') → l'.length ≤ l.length + 1 ∧ f'.2.2.2.2.1.length ≤ X.length + 1 ∧ f'.2.2.2.2.2.length ≤ E.length + 1 ∧ (z' = false → l' = []) := by
      intro l' z' f' h
      simp only [addS] at h
      split at h
      · simp only [Option.some.injEq, Prod.mk.injEq] at h
        obtain ⟨rfl, rfl, rfl⟩ := h
        exact ⟨by cases z <;> simp, by simp [newF], by simp [newF], fun h => by cases h⟩
      split at h
      · cases h
      rename_i hz2
      split at h
      · simp only [Option.some.injEq, Prod.mk.injEq] at h
        obtain ⟨rfl, rfl, rfl⟩ := h
        exact ⟨by omega, by simp, by simp, hz⟩
      split at h
      · simp only [Option.some.injEq, Prod.mk.injEq] at h
        obtain ⟨rfl, rfl, rfl⟩ := h
        exact ⟨by omega, by simp, by simp, hz⟩
      · cases h
    cases hs : addS (l, z, (a, b, c, e, X, E)) d with
    | none => rfl
    | some v =>
      obtain ⟨l', z', f'⟩ := v
      obtain ⟨s1, s2, s3, s4⟩ := step l' z' f' hs
      simp only [Option.bind_some]
      exact addLoop hn hy ds (i + 1) m l' z' f' hrest (by omega) (by omega) (fun x hx => hg x (List.mem_cons_of_mem _ hx)) (by omega) (by omega) (by omega) s4
end
/-! the pieces -/
def spV (s : CTx) : Int × List CTx := if s.length ≤ 512 then (if (spl s.length s).1 = 0 then (0, (spl s.length s).2) else ((spl s.length s).1, [])) else (2, [])
theorem splP (n : Nat) (hn : 600 < n) (s : CTx) : F30 n s = some (spV s) := by
  unfold F30 spV
  by_cases h5 : s.length ≤ 512
  · rw [decide_eq_false (by omega : ¬ ((s.length : Nat) : Int) > 512), if_pos h5]
    simp only [cond_false]
    have h1 := f26_loop n s.length s [] n (Nat.le_refl _) h5 (by simpa using h5) (by omega)
    simp only [List.nil_append] at h1
    rw [h1]
  · rw [decide_eq_true (by omega : ((s.length : Nat) : Int) > 512), if_neg h5]
    rfl
theorem splR (n : Nat) (hn : 600 < n) (s : CTx) : F33 n s = some (spV s) := by
  unfold F33 spV
  by_cases h5 : s.length ≤ 512
  · rw [decide_eq_false (by omega : ¬ ((s.length : Nat) : Int) > 512), if_pos h5]
    simp only [cond_false]
    have h2 := f27_one n s h5 (by omega) s.length 0 [] n (by omega) (by omega) (by simp) (by omega) h5
    have h3 : (spl s.length s).1 = 0 → _ := fun h => f27_two n s h5 s.length 0 [] [] n (by omega) (by omega) (by simpa using h) (by simpa using h5) rfl (by omega)
    simp only [List.drop_zero, List.nil_append] at h2 h3
    rw [show ((0 : Int), ([] : List Int)) = (((0 : Nat) : Int), ([] : List Int)) from rfl, h2]
    by_cases h0 : (spl s.length s).1 = 0
    · simp only [if_pos h0]
      have h4 := h3 h0
      simp only [List.length_nil] at h4
      exact h4
    · simp only [if_neg h0]
  · rw [decide_eq_true (by omega : ((s.length : Nat) : Int) > 512), if_neg h5]
    rfl
theorem spV_parts {s : CTx} (h : (spV s).1 = 0) : (∀ d ∈ (spV s).2, GoodP d) ∧ (spV s).2.flatten = s ∧ (spV s).2.length ≤ 512 ∧ s.length ≤ 512 := by
  unfold spV at h ⊢
  split at h
  · rename_i h5
    rw [if_pos h5]
    split at h
    · rename_i h0
      rw [if_pos h0]
      have := spl_len s.length s
      exact ⟨spl_good _ _ h0, spl_cat _ _ (Nat.le_refl _) h0, by show (spl s.length s).2.length ≤ 512; omega, h5⟩
    · rename_i h0; exact absurd h h0
  · cases h
/-- what the program reads -/
def rdP (s : CTx) : Int × Int × Int × Int × List CFace × Int :=
  if (spV s).1 ≠ 0 then (0, 0, 0, 0, [], (spV s).1) else
  match (spV s).2 with
  | [] => errC
  | h :: ds => if h.length = 9 then (match addAll ([], false, (0, 0, 0, 0, [], [])) ds with
      | none => errC
      | some (l', z', f') => endP s h (l' ++ cond z' [f'] [])) else errC
theorem readP (n : Nat) (hn : 2000 < n) (s : CTx) : F13 n s = some (rdP s) := by
  unfold F13 rdP
  rw [splP n (by omega) s]
  simp only [Option.bind_some]
  by_cases h0 : (spV s).1 = 0
  case neg =>
    rw [show ((spV s).1 != 0) = true from bne_iff_ne.2 h0, if_pos h0]
    rfl
  rw [show ((spV s).1 != 0) = false from bne_eq_false_iff_eq.2 h0, if_neg (by simpa using h0)]
  obtain ⟨g1, g2, g3, g4⟩ := spV_parts h0
  cases hl : (spV s).2 with
  | nil => rfl
  | cons h ds =>
    rw [hl] at g1 g3
    simp only [List.length_cons] at g3
    simp only [cond_false, List.length_cons, List.getD_cons_zero, List.drop_succ_cons, List.drop_zero]
    rw [show ((((ds.length + 1 : Nat)) : Int) == 0) = false from beq_eq_false_iff_ne.2 (by omega), inb_true (by omega) (by omega)]
    simp only [cond_false, cond_true]
    by_cases h9 : h.length = 9
    case neg =>
      rw [show (((h.length : Nat) : Int) != 9) = true from bne_iff_ne.2 (by omega), if_neg h9]
      rfl
    rw [show (((h.length : Nat) : Int) != 9) = false from bne_eq_false_iff_eq.2 (by omega), if_pos h9, inb_true (by omega) (by omega), inb_true (by omega) (by omega), inb_true (by omega) (by omega), inb_true (by omega) (by omega), show subB (ds.length + 1) (some 1) none = true by simp [subB]; omega]
    simp only [cond_false, cond_true]
    have := addLoop n s (spV s) hn (by rw [hl]; simp; omega) ds 0 n [] false (0, 0, 0, 0, [], []) (by rw [hl]; rfl) (by omega) (by omega) (fun d hd' => (g1 d (List.mem_cons_of_mem _ hd')).1) (by simp; omega) (by simp; omega) (by simp; omega) (fun _ => rfl)
    refine Eq.trans ?_ (this.trans ?_)
    · congr 1
    · rw [hl]; rfl
end Go.Proofs.Ytdgdkbpmmemphaa
