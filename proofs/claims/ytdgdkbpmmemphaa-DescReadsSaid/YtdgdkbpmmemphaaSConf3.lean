/- Texts of a configuration: the loops; in plain Lean. -/
import Derived.Test.YtdgdkbpmmemphaaSConf2
namespace Go.Proofs.Ytdgdkbpmmemphaa
open Go Go.RowKit
set_option linter.unusedVariables false

def exAll (l : List CTx) : Bool := l.all fun x => decide (exOk x)
theorem p186 (n : Nat) (hn : 100 < n) (k7 : CTx × Int × CM → Option (CTx × Int)) (Fs : List CFace) (i : Nat) (f : CFace) (hf : Fs.getD i ((0 : Int), ((0 : Int), ((0 : Int), ((0 : Int), (([] : List (List UInt8)), ([] : List (Int × Bool × Int × Int × Int))))))) = f) (rest : CTx) (m : CM) (h2 : f.2.2.2.2.1.length ≤ 2) :
    loopF (F32_l186 n k7 Fs rest (i : Int) m) n 0 = bif exAll f.2.2.2.2.1 then (bif decide (4 < f.2.2.2.2.2.length) then some ([], 2) else loopF (F32_l189 n k7 Fs rest (i : Int)) n (0, m)) else some ([], 1) := by
  refine (loopF_eq (F32_l186 n k7 Fs rest (i : Int) m) (fun x => bif exAll (f.2.2.2.2.1.drop x.toNat) then (bif decide (4 < f.2.2.2.2.2.length) then some ([], 2) else loopF (F32_l189 n k7 Fs rest (i : Int)) n (0, m)) else some ([], 1)) (fun x => ∃ j : Nat, x = (j : Int) ∧ j ≤ f.2.2.2.2.1.length) (fun x => f.2.2.2.2.1.length - x.toNat) ?_ n 0 ⟨0, rfl, by omega⟩ (by simp; omega)).trans rfl
  rintro kk x ⟨j, rfl, hj⟩ ih
  simp only [F32_l186, Int.toNat_natCast, hf]
  by_cases hjl : j < f.2.2.2.2.1.length
  · have ek : ((j : Int) + 1).toNat = j + 1 := by omega
    have ih' := ih ((j : Int) + 1) ⟨j + 1, by omega, by omega⟩ (by simp only [Int.toNat_natCast, ek]; omega)
    rw [decide_eq_true (show (j : Int) < (f.2.2.2.2.1.length : Int) by omega), inb_true (by omega) (by omega), w64 (n := (j : Int) + 1) (by omega) (by omega), exP, ih', ek]
    have ed : exAll (f.2.2.2.2.1.drop j) = (decide (exOk (f.2.2.2.2.1.getD j [])) && exAll (f.2.2.2.2.1.drop (j + 1))) := by rw [dropC _ j [] hjl]; simp only [exAll, List.all_cons]
    simp only [ed, cond_true, Option.bind_some]
    cases decide (exOk (f.2.2.2.2.1.getD j [])) with
    | true => rfl
    | false =>
      simp only [Bool.not_false, cond_true, Bool.false_and, cond_false]
      exact j173_bad n k7 Fs rest _ 1 _ (by omega)
  · have ed : f.2.2.2.2.1.drop j = [] := List.drop_of_length_le (by omega)
    rw [decide_eq_false (by omega)]
    simp only [ed, cond_false]
    rw [show exAll [] = true from rfl]
    simp only [cond_true]
    by_cases h4 : 4 < f.2.2.2.2.2.length
    · rw [decide_eq_true (show ((f.2.2.2.2.2.length : Nat) : Int) > 4 by omega), decide_eq_true h4]
      simp only [cond_true]
      exact j173_bad n k7 Fs rest _ 2 _ (by omega)
    · rw [decide_eq_false (show ¬ ((f.2.2.2.2.2.length : Nat) : Int) > 4 by omega), decide_eq_false h4]; rfl
theorem jnP (n : Nat) (l : List CTx) (h2 : l.length ≤ 2) (h : ∀ x ∈ l, exOk x) : F62 n l [] = some (Lib.join l []) := by
  have := join_len l h2 h
  unfold F62
  rw [decide_eq_true ⟨by omega, by omega⟩]; rfl
theorem j173_ok (n : Nat) (hn : 100 < n) (k7 : CTx × Int × CM → Option (CTx × Int)) (Fs : List CFace) (i : Nat) (hi : i ≤ 10) (f : CFace) (hf : Fs.getD i ((0 : Int), ((0 : Int), ((0 : Int), ((0 : Int), (([] : List (List UInt8)), ([] : List (Int × Bool × Int × Int × Int))))))) = f) (A : List CK) (h0 : faceE f A = 0) (rest : CTx) (hr : rest.length ≤ 2000) (m : CM) :
    F32_j173 n k7 Fs rest (i : Int) (0, m) = k7 (rest ++ faceT i f, (i : Int) + 1, m) := by
  obtain ⟨_, h2, h3, h4, h5⟩ := face_ok h0
  have hjl := join_len _ h2 h3
  simp only [F32_j173, Int.toNat_natCast, hf]
  rw [show ((0 : Int) != 0) = false from rfl, putP n _ (by simp; omega) (by simp), jnP n _ h2 h3]
  simp only [cond_false, Option.bind_some, List.length_append, putV_len, List.length_cons, List.length_nil]
  rw [decide_eq_true (by omega), decide_eq_true (by omega)]
  simp only [cond_true]
  rw [p176 n hn k7 Fs i f hf m h4 (endsE_ok _ _ h5) _ (by simp only [List.length_append, putV_len, List.length_cons, List.length_nil]; omega), w64 (by omega) (by omega), List.append_assoc]
  rfl
theorem mapAll_fst (m : CM) (l : List CEnd) : (mapAll m l).map (·.1) = m.map (·.1) ++ keysE l := by simp [mapAll, keysE, Function.comp_def]
theorem mapAll_T {m : CM} (h : AllT m) (l : List CEnd) : AllT (mapAll m l) := by
  intro y hy
  unfold mapAll at hy
  rcases List.mem_append.1 hy with h1 | h1
  · exact h y h1
  · simp only [List.mem_map] at h1
    obtain ⟨d, _, rfl⟩ := h1
    rfl
theorem confP (n : Nat) (hn : 2000 < n) (v nm at' pw : Int) (Fs : List CFace) : F32 n v nm at' pw Fs = some (confV v nm at' pw Fs) := by
  have main : Fs.length ≤ 4 → loopF (F32_l159 n v nm at' pw Fs) n ([], 0, []) = some (goF v nm at' pw Fs.length 0 [] [] Fs) := by
    intro hL
    refine (loopF_eq (F32_l159 n v nm at' pw Fs) (fun d => some (goF v nm at' pw Fs.length d.2.1.toNat d.1 (d.2.2.map (·.1)) (Fs.drop d.2.1.toNat))) (fun d => ∃ i : Nat, d.2.1 = (i : Int) ∧ i ≤ Fs.length ∧ d.1.length ≤ 101 * i ∧ AllT d.2.2) (fun d => Fs.length - d.2.1.toNat) ?_ n ([], 0, []) ⟨0, rfl, by omega, by simp, fun y hy => by simp at hy⟩ (by simp; omega)).trans rfl
    rintro kk ⟨rest, x, m⟩ ⟨i, rfl, hi, hr, hT⟩ ih
    simp only at hr hT
    simp only [F32_l159, Int.toNat_natCast]
    by_cases hil : i < Fs.length
    · obtain ⟨f, hf⟩ : ∃ f, Fs.getD i ((0 : Int), ((0 : Int), ((0 : Int), ((0 : Int), (([] : List (List UInt8)), ([] : List (Int × Bool × Int × Int × Int))))))) = f := ⟨_, rfl⟩
      have ed : Fs.drop i = f :: Fs.drop (i + 1) := by rw [dropC Fs i ((0 : Int), ((0 : Int), ((0 : Int), ((0 : Int), (([] : List (List UInt8)), ([] : List (Int × Bool × Int × Int × Int))))))) hil, hf]
      rw [decide_eq_true (show (i : Int) < (Fs.length : Int) by omega), inb_true (by omega) (by omega)]
      simp only [hf, cond_true]
      rw [bytesB n _ (by simp; omega) (by simp), ed]
      simp only [Option.bind_some, goF]
      have bad : ∀ e : Int, e ≠ 0 → faceE f (m.map (·.1)) = e → F32_j173 n kk Fs rest (i : Int) (e, m) = some (if faceE f (m.map (·.1)) = 0 then goF v nm at' pw Fs.length (i + 1) (rest ++ faceT i f) (m.map (·.1) ++ keysE f.2.2.2.2.2) (Fs.drop (i + 1)) else ([], faceE f (m.map (·.1)))) := by
        intro e he hfe
        rw [j173_bad n kk Fs rest _ e _ he, hfe, if_neg he]
      cases h1 : allIn 255 [f.1, f.2.1, f.2.2.1, f.2.2.2.1] with
      | false =>
        simp only [Bool.not_false, cond_true]
        exact bad 1 (by omega) (by unfold faceE; rw [if_pos h1])
      | true =>
        simp only [Bool.not_true, cond_false]
        by_cases h2 : 2 < f.2.2.2.2.1.length
        · rw [decide_eq_true (show ((f.2.2.2.2.1.length : Nat) : Int) > 2 by omega)]
          simp only [cond_true]
          exact bad 2 (by omega) (by unfold faceE; rw [if_neg (by simp [h1]), if_pos h2])
        · rw [decide_eq_false (show ¬ ((f.2.2.2.2.1.length : Nat) : Int) > 2 by omega)]
          simp only [cond_false]
          rw [p186 n (by omega) kk Fs i f hf rest m (by omega)]
          cases h3 : exAll f.2.2.2.2.1 with
          | false =>
            simp only [cond_false]
            have : faceE f (m.map (·.1)) = 1 := by unfold faceE; rw [if_neg (by simp [h1]), if_neg h2, if_pos (show (f.2.2.2.2.1.all fun x => decide (exOk x)) = false from h3)]
            rw [this]; rfl
          | true =>
            simp only [cond_true]
            by_cases h4 : 4 < f.2.2.2.2.2.length
            · rw [decide_eq_true h4]
              have : faceE f (m.map (·.1)) = 2 := by unfold faceE; rw [if_neg (by simp [h1]), if_neg h2, if_neg (by rw [show (f.2.2.2.2.1.all fun x => decide (exOk x)) = true from h3]; simp), if_pos h4]
              rw [this]; rfl
            · rw [decide_eq_false h4]
              simp only [cond_false]
              have hfe : faceE f (m.map (·.1)) = endsE (m.map (·.1)) f.2.2.2.2.2 := by unfold faceE; rw [if_neg (by simp [h1]), if_neg h2, if_neg (by rw [show (f.2.2.2.2.1.all fun x => decide (exOk x)) = true from h3]; simp), if_neg h4]
              rw [p189 n (by omega) kk Fs i f hf rest m (m.map (·.1)) ⟨hT, rfl⟩ (by omega), ← hfe]
              by_cases h0 : faceE f (m.map (·.1)) = 0
              · rw [if_pos h0, if_pos h0, j173_ok n (by omega) kk Fs i (by omega) f hf _ h0 rest (by omega)]
                have hl := faceT_len i h0
                have ih' := ih (rest ++ faceT i f, (i : Int) + 1, mapAll m f.2.2.2.2.2) ⟨i + 1, by simp, by omega, by simp only [List.length_append]; omega, mapAll_T hT _⟩ (by simp only [Int.toNat_natCast]; omega)
                rw [ih']
                simp only [mapAll_fst, show ((i : Int) + 1).toNat = i + 1 by omega]
              · rw [if_neg h0, if_neg h0]
    · have ed : Fs.drop i = [] := List.drop_of_length_le (by omega)
      rw [decide_eq_false (by omega), ed]
      simp only [cond_false, goF]
      rw [putP n _ (by simp; omega) (by simp), putP n _ (by simp; omega) (by simp), wordP n _ (by omega), w64 (n := 9 + ((rest.length : Nat) : Int)) (by omega) (by omega)]
      simp only [Option.bind_some, List.length_append, putV_len, List.length_cons, List.length_nil]
      rw [decide_eq_true (by omega), decide_eq_true (by omega), decide_eq_true (by omega)]
      rfl
  unfold F32 confV
  have kt : F32_j96 n v nm at' pw Fs true = some ([], 1) := rfl
  by_cases h1 : v < 1
  · rw [decide_eq_true h1, if_pos (.inl (by omega))]; exact kt
  rw [decide_eq_false h1]
  by_cases h2 : v > 255
  · rw [decide_eq_true h2, if_pos (.inl (by omega))]; exact kt
  rw [decide_eq_false h2, bytesB n _ (by simp; omega) (by simp)]
  simp only [cond_false, Option.bind_some]
  cases h3 : allIn 255 [nm, at', pw] with
  | false => rw [if_pos (.inr rfl)]; exact kt
  | true =>
    rw [if_neg (by simp; omega)]
    simp only [Bool.not_true, F32_j96, cond_false]
    by_cases h4 : 4 < Fs.length
    · rw [decide_eq_true (show ((Fs.length : Nat) : Int) > 4 by omega), if_pos h4]; rfl
    · rw [decide_eq_false (show ¬ ((Fs.length : Nat) : Int) > 4 by omega), if_neg h4]
      exact main (by omega)
/-! the document -/
def hasK (k : CK) : List CEnd → Bool
  | [] => false
  | o :: l => (o.1 == k.1 && o.2.1 == k.2) || hasK k l
theorem hasK_iff (k : CK) : ∀ l, hasK k l = true ↔ k ∈ keysE l
  | [] => by simp [hasK, keysE]
  | o :: l => by
    have ih := hasK_iff k l
    simp only [hasK, Bool.or_eq_true, Bool.and_eq_true, beq_iff_eq, ih]
    show _ ↔ k ∈ keyE o :: keysE l
    rw [List.mem_cons]
    obtain ⟨a, b⟩ := k
    simp only [keyE, Prod.mk.injEq]
    constructor
    · rintro (⟨h1, h2⟩ | h)
      · exact Or.inl ⟨h1.symm, h2.symm⟩
      · exact Or.inr h
    · rintro (⟨h1, h2⟩ | h)
      · exact Or.inl ⟨h1.symm, h2.symm⟩
      · exact Or.inr h
theorem hasK_eq (k : CK) (l : List CEnd) : hasK k l = decide (k ∈ keysE l) := by
  rw [Bool.eq_iff_iff, hasK_iff, decide_eq_true_iff]
theorem allIn_cons (m x : Int) (l : List Int) : allIn m (x :: l) = true ↔ (0 ≤ x ∧ x ≤ m) ∧ allIn m l = true := by
  simp only [allIn, List.all_cons, Bool.and_eq_true, decide_eq_true_eq]; rfl
theorem allIn_nil (m : Int) : allIn m [] = true ↔ True := by simp [allIn]
theorem q44 (n : Nat) (hn : 100 < n) (k42 : Int → Option Int) (E : List CEnd) (j : Nat) (hj : j ≤ 10) (y : List CEnd) (d : CEnd) (hd : E.getD j ((0 : Int), (false, ((0 : Int), ((0 : Int), (0 : Int))))) = d) (hl : (y ++ E.take j).length ≤ 50) :
    loopF (F65_l44 n k42 E (j : Int) y) n 0 = bif hasK (keyE d) (y ++ E.take j) then some 13 else k42 ((j : Int) + 1) := by
  obtain ⟨S, hS⟩ : ∃ S, y ++ E.take j = S := ⟨_, rfl⟩
  rw [hS] at hl ⊢
  refine (loopF_eq (F65_l44 n k42 E (j : Int) y) (fun x => bif hasK (keyE d) (S.drop x.toNat) then some 13 else k42 ((j : Int) + 1)) (fun x => ∃ i : Nat, x = (i : Int) ∧ i ≤ S.length) (fun x => S.length - x.toNat) ?_ n 0 ⟨0, rfl, by omega⟩ (by simp; omega)).trans rfl
  rintro kk x ⟨i, rfl, hi⟩ ih
  simp only [F65_l44, Int.toNat_natCast, hS, hd]
  by_cases hil : i < S.length
  · have ek : ((i : Int) + 1).toNat = i + 1 := by omega
    have ih' := ih ((i : Int) + 1) ⟨i + 1, by omega, by omega⟩ (by simp only [Int.toNat_natCast, ek]; omega)
    obtain ⟨o, ho⟩ : ∃ o, S.getD i ((0 : Int), (false, ((0 : Int), ((0 : Int), (0 : Int))))) = o := ⟨_, rfl⟩
    have ed : S.drop i = o :: S.drop (i + 1) := by rw [dropC S i ((0 : Int), (false, ((0 : Int), ((0 : Int), (0 : Int))))) hil, ho]
    rw [decide_eq_true (show (i : Int) < (S.length : Int) by omega), inb_true (by omega) (by omega), w64 (n := (i : Int) + 1) (by omega) (by omega), ih', ek, ed]
    simp only [ho, cond_true, hasK, keyE]
    cases (o.1 == d.1) <;> cases (o.2.1 == d.2.1) <;> simp
  · have ed : S.drop i = [] := List.drop_of_length_le (by omega)
    rw [decide_eq_false (by omega), ed, w64 (n := (j : Int) + 1) (by omega) (by omega)]; rfl
theorem q42 (n : Nat) (hn : 100 < n) (E ahead : List CEnd) (hE : E.length ≤ 4) (ha : ahead.length ≤ 40) : loopF (F65_l42 n E ahead) n 0 = some (endsE (keysE ahead) E) := by
  refine (loopF_eq (F65_l42 n E ahead) (fun x => some (endsE (keysE ahead ++ keysE (E.take x.toNat)) (E.drop x.toNat))) (fun x => ∃ j : Nat, x = (j : Int) ∧ j ≤ E.length) (fun x => E.length - x.toNat) ?_ n 0 ⟨0, rfl, by omega⟩ (by simp; omega)).trans (by simp [keysE])
  rintro kk x ⟨j, rfl, hj⟩ ih
  simp only [F65_l42, Int.toNat_natCast, btw3]
  by_cases hjl : j < E.length
  · obtain ⟨d, hd⟩ : ∃ d, E.getD j ((0 : Int), (false, ((0 : Int), ((0 : Int), (0 : Int))))) = d := ⟨_, rfl⟩
    have ek : ((j : Int) + 1).toNat = j + 1 := by omega
    have ih' := ih ((j : Int) + 1) ⟨j + 1, by omega, by omega⟩ (by simp only [Int.toNat_natCast, ek]; omega)
    rw [decide_eq_true (show (j : Int) < (E.length : Int) by omega), inb_true (by omega) (by omega), endsE_step (keysE ahead) E j d hjl hd]
    simp only [hd, cond_true, Option.bind_some]
    have kt : F65_j43 n kk E ahead (j : Int) true = some 1 := rfl
    by_cases g1 : 1 ≤ d.1 ∧ d.1 ≤ 15
    · rw [decide_eq_true g1]
      simp only [Bool.not_true, cond_false]
      by_cases g2 : 0 ≤ d.2.2.1 ∧ d.2.2.1 ≤ 3
      · rw [decide_eq_true g2]
        simp only [Bool.not_true, cond_false]
        by_cases g3 : 1 ≤ d.2.2.2.1 ∧ d.2.2.2.1 ≤ 64
        · rw [decide_eq_true g3]
          simp only [Bool.not_true, cond_false]
          by_cases g4 : 0 ≤ d.2.2.2.2 ∧ d.2.2.2.2 ≤ 255
          · rw [decide_eq_true g4, if_pos ⟨g1, g2, g3, g4⟩]
            simp only [Bool.not_true, F65_j43, cond_false, F69, Int.toNat_natCast]
            rw [decide_eq_true (by simp; omega)]
            simp only [cond_true, Option.bind_some]
            rw [show subB E.length none (some (j : Int)) = true by simp [subB]; omega, decide_eq_true (by simp; omega)]
            simp only [cond_true]
            rw [q44 n hn kk E j (by omega) _ d hd (by simp; omega), hasK_eq]
            have ek2 : keysE (([] : List CEnd) ++ ahead ++ E.take j) = keysE ahead ++ keysE (E.take j) := by simp [keysE]
            rw [ek2, ih', ek]
            by_cases hin : keyE d ∈ keysE ahead ++ keysE (E.take j)
            · rw [decide_eq_true hin, if_pos hin]; rfl
            · rw [decide_eq_false hin, if_neg hin]; rfl
          · rw [decide_eq_false g4, if_neg (fun h => g4 h.2.2.2)]; exact kt
        · rw [decide_eq_false g3, if_neg (fun h => g3 h.2.2.1)]; exact kt
      · rw [decide_eq_false g2, if_neg (fun h => g2 h.2.1)]; exact kt
    · rw [decide_eq_false g1, if_neg (fun h => g1 h.1)]; exact kt
  · have ed : E.drop j = [] := List.drop_of_length_le (by omega)
    rw [decide_eq_false (by omega), ed]; rfl
theorem q37 (n : Nat) (hn : 100 < n) (X : List CTx) (hX : X.length ≤ 2) (E ahead : List CEnd) (ha : ahead.length ≤ 40) : loopF (F65_l37 n X E ahead) n 0 = some (if exAll X = false then 1 else if 4 < E.length then 2 else endsE (keysE ahead) E) := by
  refine (loopF_eq (F65_l37 n X E ahead) (fun x => bif exAll (X.drop x.toNat) then some (if 4 < E.length then 2 else endsE (keysE ahead) E) else some 1) (fun x => ∃ j : Nat, x = (j : Int) ∧ j ≤ X.length) (fun x => X.length - x.toNat) ?_ n 0 ⟨0, rfl, by omega⟩ (by simp; omega)).trans (by
    show (bif exAll X then _ else _) = _
    cases exAll X <;> rfl)
  rintro kk x ⟨j, rfl, hj⟩ ih
  simp only [F65_l37, Int.toNat_natCast, btw3]
  by_cases hjl : j < X.length
  · obtain ⟨d, hd⟩ : ∃ d, X.getD j [] = d := ⟨_, rfl⟩
    have ek : ((j : Int) + 1).toNat = j + 1 := by omega
    have ih' := ih ((j : Int) + 1) ⟨j + 1, by omega, by omega⟩ (by simp only [Int.toNat_natCast, ek]; omega)
    have ed : exAll (X.drop j) = (decide (exOk d) && exAll (X.drop (j + 1))) := by rw [dropC X j [] hjl, hd]; simp only [exAll, List.all_cons]
    have hb := UInt8.toNat_lt (d.getD 0 0)
    rw [decide_eq_true (show (j : Int) < (X.length : Int) by omega), inb_true (show (0 : Int) ≤ (j : Int) by omega) (show (j : Int) < (X.length : Int) by omega), w64 (n := (j : Int) + 1) (by omega) (by omega), ih', ek]
    simp only [hd, ed, cond_true, Option.bind_some]
    by_cases g1 : 2 ≤ d.length ∧ d.length ≤ 32
    · rw [decide_eq_true (show (2 : Int) ≤ ((d.length : Nat) : Int) ∧ ((d.length : Nat) : Int) ≤ 32 by omega), inb_true (by omega) (by omega), inb_true (by omega) (by omega), w64 (n := (((d.getD 0 0).toNat : Nat) : Int)) (by omega) (by omega)]
      simp only [Bool.not_true, cond_false, cond_true]
      by_cases g2 : (d.getD 0 0).toNat = d.length
      · rw [show ((((d.getD 0 0).toNat : Nat) : Int) != ((d.length : Nat) : Int)) = false from bne_eq_false_iff_eq.2 (by rw [g2])]
        simp only [cond_false]
        by_cases g3 : 6 ≤ (d.getD 1 0).toNat
        · rw [decide_eq_false (show ¬ (((d.getD 1 0).toNat : Nat) : Int) ≤ 5 by omega), decide_eq_true (show exOk d from ⟨g1, g2, g3⟩)]; rfl
        · rw [decide_eq_true (show (((d.getD 1 0).toNat : Nat) : Int) ≤ 5 by omega), decide_eq_false (show ¬ exOk d from fun h => g3 h.2.2)]; rfl
      · rw [show ((((d.getD 0 0).toNat : Nat) : Int) != ((d.length : Nat) : Int)) = true from bne_iff_ne.2 (by omega), decide_eq_false (show ¬ exOk d from fun h => g2 h.2.1)]; rfl
    · rw [decide_eq_false (show ¬ ((2 : Int) ≤ ((d.length : Nat) : Int) ∧ ((d.length : Nat) : Int) ≤ 32) by omega), decide_eq_false (show ¬ exOk d from fun h => g1 h.1)]; rfl
  · have ed : X.drop j = [] := List.drop_of_length_le (by omega)
    rw [decide_eq_false (by omega)]
    simp only [ed, cond_false]
    rw [show exAll [] = true from rfl]
    simp only [cond_true]
    by_cases h4 : 4 < E.length
    · rw [decide_eq_true (show ((E.length : Nat) : Int) > 4 by omega), if_pos h4]; rfl
    · rw [decide_eq_false (show ¬ ((E.length : Nat) : Int) > 4 by omega), if_neg h4]
      exact q42 n hn E ahead (by omega) ha
theorem q22 (n : Nat) (hn : 100 < n) (f : CFace) (ahead : List CEnd) (ha : ahead.length ≤ 40) : F65 n f.1 f.2.1 f.2.2.1 f.2.2.2.1 f.2.2.2.2.1 f.2.2.2.2.2 ahead = some (faceE f (keysE ahead)) := by
  unfold F65 faceE
  rw [bytesR n _ (by simp; omega) (by simp)]
  simp only [Option.bind_some]
  cases h1 : allIn 255 [f.1, f.2.1, f.2.2.1, f.2.2.2.1] with
  | false => rfl
  | true =>
    simp only [if_true, Bool.not_true, cond_false]
    rw [if_neg (by simp)]
    by_cases h2 : 2 < f.2.2.2.2.1.length
    · rw [decide_eq_true (show ((f.2.2.2.2.1.length : Nat) : Int) > 2 by omega), if_pos h2]; rfl
    · rw [decide_eq_false (show ¬ ((f.2.2.2.2.1.length : Nat) : Int) > 2 by omega), if_neg h2]
      exact q37 n hn _ (by omega) _ _ ha
theorem q25 (n : Nat) (hn : 100 < n) (k8 : CTx × Int × List CEnd → Option (CTx × Int)) (Fs : List CFace) (i : Nat) (f : CFace) (hf : Fs.getD i ((0 : Int), ((0 : Int), ((0 : Int), ((0 : Int), (([] : List (List UInt8)), ([] : List (Int × Bool × Int × Int × Int))))))) = f) (ah : List CEnd) (h4 : f.2.2.2.2.2.length ≤ 4) (hok : ∀ d ∈ f.2.2.2.2.2, endOk d) (rest : CTx) (hr : rest.length ≤ 5000) :
    loopF (F35_l25 n k8 Fs (i : Int) ah) n (rest, 0) = k8 (rest ++ endsT f.2.2.2.2.2, IntKind.wrap .i64 ((i : Int) + 1), ah ++ f.2.2.2.2.2) := by
  refine loopF_eq (F35_l25 n k8 Fs (i : Int) ah) (fun _ => k8 (rest ++ endsT f.2.2.2.2.2, IntKind.wrap .i64 ((i : Int) + 1), ah ++ f.2.2.2.2.2)) (fun d => ∃ j : Nat, j ≤ f.2.2.2.2.2.length ∧ d = (rest ++ endsT (f.2.2.2.2.2.take j), (j : Int))) (fun d => f.2.2.2.2.2.length - d.2.toNat) ?_ n (rest, 0) ⟨0, by omega, by simp [endsT]⟩ (by simp; omega)
  rintro kk d ⟨j, hj, rfl⟩ ih
  simp only [F35_l25, F35_j26, Int.toNat_natCast, hf]
  by_cases hjl : j < f.2.2.2.2.2.length
  · obtain ⟨d, hd⟩ : ∃ d, f.2.2.2.2.2.getD j ((0 : Int), (false, ((0 : Int), ((0 : Int), (0 : Int))))) = d := ⟨_, rfl⟩
    have hdm : d ∈ f.2.2.2.2.2 := by
      rw [← hd, List.getD_eq_getElem?_getD, List.getElem?_eq_getElem hjl]; exact List.getElem_mem hjl
    have hdo := hok d hdm
    have hlen : (endsT (f.2.2.2.2.2.take j)).length ≤ 28 := by rw [endsT_len, List.length_take]; omega
    have key : ∀ a : Int, a = endA d → 0 ≤ a ∧ a ≤ 255 → ((F64 n [7, 5, a, d.2.2.1, d.2.2.2.1, 0, d.2.2.2.2]).bind fun y_7 => (bif (decide ((rest ++ endsT (f.2.2.2.2.2.take j)).length + y_7.1.length ≤ 9223372036854775807)) then (kk (((rest ++ endsT (f.2.2.2.2.2.take j)) ++ y_7.1), (IntKind.wrap .i64 ((j : Int) + 1)))) else none)) = k8 (rest ++ endsT f.2.2.2.2.2, IntKind.wrap .i64 ((i : Int) + 1), ah ++ f.2.2.2.2.2) := by
      rintro a ha hab
      obtain ⟨g1, g2, g3, g4⟩ := hdo
      rw [bytesR n _ (by simp; omega) (by simp), if_pos (by simp only [allIn_cons, allIn_nil, and_true]; omega)]
      simp only [Option.bind_some]
      rw [decide_eq_true (by simp only [List.length_append, putV_len, List.length_cons, List.length_nil]; omega)]
      simp only [cond_true]
      rw [w64 (n := (j : Int) + 1) (by omega) (by omega), ha]
      refine ih _ ⟨j + 1, by omega, ?_⟩ (by simp only [Int.toNat_natCast]; omega)
      rw [takeD _ j ((0 : Int), (false, ((0 : Int), ((0 : Int), (0 : Int))))) hjl, hd, endsT_snoc, List.append_assoc]; rfl
    rw [decide_eq_true (show (j : Int) < (f.2.2.2.2.2.length : Int) by omega), inb_true (by omega) (by omega)]
    simp only [hd, cond_true]
    have := hdo.1
    cases hin : d.2.1 with
    | true =>
      simp only [cond_true]
      rw [w64 (n := d.1 + 128) (by omega) (by omega)]
      exact key _ (by simp [endA, hin]) (by omega)
    | false =>
      simp only [cond_false]
      exact key _ (by simp [endA, hin]) (by omega)
  · obtain rfl : j = f.2.2.2.2.2.length := by omega
    rw [decide_eq_false (by omega), List.take_of_length_le (by omega)]; rfl
theorem two9 (n : Nat) (x : Nat) (hx : x < 100000) : F66 n (x : Int) = some (putV [(x : Int), shrI .i64 (x : Int) 8]) := by
  unfold F66
  have e1 : shrI .i64 (x : Int) 8 = (x : Int) / 256 := by
    have := shr_div .i64 (x : Int) 8 (by simp [IntKind.bits])
    rw [show ((8 : Nat) : Int) = (8 : Int) from rfl] at this
    rw [this, show (2 : Int) ^ 8 = 256 from rfl]
  have e2 : (x : Int).tdiv 256 = (x : Int) / 256 := Int.tdiv_eq_ediv_of_nonneg (by omega)
  have e3 : (x : Int).tmod 256 = (x : Int) % 256 := Int.tmod_eq_emod_of_nonneg (by omega)
  rw [e2, w64 (by omega) (by omega), e3, Int.tmod_eq_emod_of_nonneg (by omega)]
  simp only [putV, wb, List.map_cons, List.map_nil, e1, u8w]
  rw [show ((x : Int) % 256) % 256 = (x : Int) % 256 by omega, show ((x : Int) / 256 % 256) % 256 = (x : Int) / 256 % 256 by omega]
theorem confR (n : Nat) (hn : 2000 < n) (v nm at' pw : Int) (Fs : List CFace) : F35 n v nm at' pw Fs = some (confV v nm at' pw Fs) := by
  have hall : allIn 255 [v, nm, at', pw] = (decide (inR2 255 v) && allIn 255 [nm, at', pw]) := by simp only [allIn, List.all_cons]
  have main : allIn 255 [v, nm, at', pw] = true → Fs.length ≤ 4 → loopF (F35_l22 n Fs (putV [v, nm, at', pw], true)) n ([], 0, []) = some (goF v nm at' pw Fs.length 0 [] [] Fs) := by
    intro hv hL
    refine (loopF_eq (F35_l22 n Fs (putV [v, nm, at', pw], true)) (fun d => some (goF v nm at' pw Fs.length d.2.1.toNat d.1 (keysE d.2.2) (Fs.drop d.2.1.toNat))) (fun d => ∃ i : Nat, d.2.1 = (i : Int) ∧ i ≤ Fs.length ∧ d.1.length ≤ 101 * i ∧ d.2.2.length ≤ 4 * i) (fun d => Fs.length - d.2.1.toNat) ?_ n ([], 0, []) ⟨0, rfl, by omega, by simp, by simp⟩ (by simp; omega)).trans rfl
    rintro kk ⟨rest, x, m⟩ ⟨i, rfl, hi, hr, hm⟩ ih
    simp only at hr hm
    simp only [F35_l22, Int.toNat_natCast]
    by_cases hil : i < Fs.length
    · obtain ⟨f, hf⟩ : ∃ f, Fs.getD i ((0 : Int), ((0 : Int), ((0 : Int), ((0 : Int), (([] : List (List UInt8)), ([] : List (Int × Bool × Int × Int × Int))))))) = f := ⟨_, rfl⟩
      have ed : Fs.drop i = f :: Fs.drop (i + 1) := by rw [dropC Fs i ((0 : Int), ((0 : Int), ((0 : Int), ((0 : Int), (([] : List (List UInt8)), ([] : List (Int × Bool × Int × Int × Int))))))) hil, hf]
      rw [decide_eq_true (show (i : Int) < (Fs.length : Int) by omega), inb_true (by omega) (by omega)]
      simp only [hf, cond_true]
      rw [q22 n (by omega) f m (by omega), ed]
      simp only [Option.bind_some, goF]
      by_cases h0 : faceE f (keysE m) = 0
      · obtain ⟨h1, h2, h3, h4, h5⟩ := face_ok h0
        have hjl := join_len _ h2 h3
        have hab : allIn 255 [9, 4, (i : Int), 0, ((f.2.2.2.2.2.length : Nat) : Int), f.1, f.2.1, f.2.2.1, f.2.2.2.1] = true := by
          simp only [allIn_cons, allIn_nil, and_true] at h1 ⊢
          omega
        rw [h0, if_pos rfl, show ((0 : Int) != 0) = false from rfl, decide_eq_true (show m.length + f.2.2.2.2.2.length ≤ 3518437208883 by omega), bytesR n _ (by simp; omega) (by simp), if_pos hab, jnP n _ h2 h3]
        simp only [cond_false, cond_true, Option.bind_some, List.length_append, putV_len, List.length_cons, List.length_nil]
        rw [decide_eq_true (by omega), decide_eq_true (by omega)]
        simp only [cond_true]
        rw [q25 n (by omega) kk Fs i f hf m h4 (endsE_ok _ _ h5) _ (by simp only [List.length_append, putV_len, List.length_cons, List.length_nil]; omega), w64 (by omega) (by omega), List.append_assoc]
        have hl := faceT_len i h0
        have ih' := ih (rest ++ faceT i f, (i : Int) + 1, m ++ f.2.2.2.2.2) ⟨i + 1, by simp, by omega, by simp only [List.length_append]; omega, by simp only [List.length_append]; omega⟩ (by simp only [Int.toNat_natCast]; omega)
        have ek : keysE (m ++ f.2.2.2.2.2) = keysE m ++ keysE f.2.2.2.2.2 := by simp [keysE]
        simp only [ek, show ((i : Int) + 1).toNat = i + 1 by omega] at ih'
        exact ih'
      · rw [if_neg h0, show (faceE f (keysE m) != 0) = true from bne_iff_ne.2 h0]; rfl
    · have ed : Fs.drop i = [] := List.drop_of_length_le (by omega)
      rw [decide_eq_false (by omega), ed]
      simp only [cond_false, goF]
      have e9 : IntKind.wrap .i64 (9 + ((rest.length : Nat) : Int)) = ((9 + rest.length : Nat) : Int) := by rw [w64 (by omega) (by omega)]; omega
      rw [bytesR n _ (by simp; omega) (by simp), if_pos (by simp only [allIn_cons, allIn_nil, and_true]; omega), e9, two9 n _ (by omega)]
      simp only [Option.bind_some, List.length_append, putV_len, List.length_cons, List.length_nil]
      rw [decide_eq_true (by omega), decide_eq_true (by omega), decide_eq_true (by omega), decide_eq_true (by omega)]
      simp only [cond_true, Option.some.injEq, Prod.mk.injEq, and_true]
      unfold finT
      rw [show ((9 + rest.length : Nat) : Int) = 9 + ((rest.length : Nat) : Int) by omega, show (([9, 2] : List UInt8)) = putV [9, 2] by decide]
      rw [show ([((Fs.length : Nat) : Int), v, nm, at', pw] : List Int) = [((Fs.length : Nat) : Int)] ++ [v, nm, at', pw] from rfl, putV_app, ← List.append_assoc]
  unfold F35 confV
  rw [bytesR n _ (by simp; omega) (by simp)]
  simp only [Option.bind_some]
  by_cases hr : inR2 255 v
  · cases h3 : allIn 255 [nm, at', pw] with
    | false =>
      have hv : allIn 255 [v, nm, at', pw] = false := by rw [hall, h3, Bool.and_false]
      rw [hv, if_pos (Or.inr rfl)]; rfl
    | true =>
      have hv : allIn 255 [v, nm, at', pw] = true := by rw [hall, h3, decide_eq_true hr]; rfl
      rw [hv]
      simp only [if_true, Bool.not_true, cond_false]
      by_cases h0 : v = 0
      · rw [show (v == 0) = true from beq_iff_eq.2 h0, if_pos (.inl (by omega))]; rfl
      · have hr' : 0 ≤ v ∧ v ≤ 255 := hr
        rw [show (v == 0) = false from beq_eq_false_iff_ne.2 h0, if_neg (by simp; omega)]
        simp only [cond_false]
        by_cases h4 : 4 < Fs.length
        · rw [decide_eq_true (show ((Fs.length : Nat) : Int) > 4 by omega), if_pos h4]; rfl
        · rw [decide_eq_false (show ¬ ((Fs.length : Nat) : Int) > 4 by omega), if_neg h4]
          exact main hv (by omega)
  · have hv : allIn 255 [v, nm, at', pw] = false := by rw [hall, decide_eq_false hr, Bool.false_and]
    rw [hv, if_pos (Or.inl (by unfold inR2 at hr; omega))]; rfl
end Go.Proofs.Ytdgdkbpmmemphaa
