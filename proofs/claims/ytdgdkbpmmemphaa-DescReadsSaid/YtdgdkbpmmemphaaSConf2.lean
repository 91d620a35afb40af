/- Texts of a configuration: what the program does, what the document does; in plain Lean. -/
import Derived.Test.YtdgdkbpmmemphaaSConf
namespace Go.Proofs.Ytdgdkbpmmemphaa
open Go Go.RowKit
set_option linter.unusedVariables false

theorem putV_app (a b : List Int) : putV (a ++ b) = putV a ++ putV b := by simp [putV, wb, strOf]
theorem endT3 {d : CEnd} (h : endOk d) : putV [7, 5, endA d, d.2.2.1] ++ putV [d.2.2.2.1, shrI .i64 d.2.2.2.1 8] ++ putV [d.2.2.2.2] = endT d := by
  have e : shrI .i64 d.2.2.2.1 8 = 0 := by
    have := shr_div .i64 d.2.2.2.1 8 (by simp [IntKind.bits])
    rw [show ((8 : Nat) : Int) = (8 : Int) from rfl] at this
    rw [this]
    have := h.2.2.1
    omega
  rw [e, ← putV_app, ← putV_app]; rfl
theorem endsT_snoc (l : List CEnd) (d : CEnd) : endsT (l ++ [d]) = endsT l ++ endT d := by simp [endsT]
theorem j173_bad (n : Nat) (k7 : CTx × Int × CM → Option (CTx × Int)) (Fs : List CFace) (rest : CTx) (x e : Int) (m : CM) (he : e ≠ 0) : F32_j173 n k7 Fs rest x (e, m) = some ([], e) := by
  simp only [F32_j173]
  rw [show (e != 0) = true by simpa using he]; rfl
theorem p176 (n : Nat) (hn : 100 < n) (k7 : CTx × Int × CM → Option (CTx × Int)) (Fs : List CFace) (i : Nat) (f : CFace) (hf : Fs.getD i ((0 : Int), ((0 : Int), ((0 : Int), ((0 : Int), (([] : List (List UInt8)), ([] : List (Int × Bool × Int × Int × Int))))))) = f) (m : CM) (h4 : f.2.2.2.2.2.length ≤ 4) (hok : ∀ d ∈ f.2.2.2.2.2, endOk d) (rest : CTx) (hr : rest.length ≤ 5000) :
    loopF (F32_l176 n k7 Fs (i : Int) m) n (rest, 0) = k7 (rest ++ endsT f.2.2.2.2.2, IntKind.wrap .i64 ((i : Int) + 1), m) := by
  refine loopF_eq (F32_l176 n k7 Fs (i : Int) m) (fun _ => k7 (rest ++ endsT f.2.2.2.2.2, IntKind.wrap .i64 ((i : Int) + 1), m)) (fun d => ∃ j : Nat, j ≤ f.2.2.2.2.2.length ∧ d = (rest ++ endsT (f.2.2.2.2.2.take j), (j : Int))) (fun d => f.2.2.2.2.2.length - d.2.toNat) ?_ n (rest, 0) ⟨0, by omega, by simp [endsT]⟩ (by simp; omega)
  rintro kk d ⟨j, hj, rfl⟩ ih
  simp only [F32_l176, F32_j177, Int.toNat_natCast, hf]
  by_cases hjl : j < f.2.2.2.2.2.length
  · obtain ⟨d, hd⟩ : ∃ d, f.2.2.2.2.2.getD j ((0 : Int), (false, ((0 : Int), ((0 : Int), (0 : Int))))) = d := ⟨_, rfl⟩
    have hdm : d ∈ f.2.2.2.2.2 := by
      rw [← hd, List.getD_eq_getElem?_getD, List.getElem?_eq_getElem hjl]; exact List.getElem_mem hjl
    have hdo := hok d hdm
    have hlen : (endsT (f.2.2.2.2.2.take j)).length ≤ 28 := by rw [endsT_len, List.length_take]; omega
    have key : ∀ a : Int, a = endA d → ((F61 n [7, 5, a, d.2.2.1]).bind fun y_5 => ((F63 n d.2.2.2.1).bind fun y_6 => (bif (decide (y_5.length + y_6.length ≤ 9223372036854775807)) then ((F61 n [d.2.2.2.2]).bind fun y_7 => (bif (decide ((y_5 ++ y_6).length + y_7.length ≤ 9223372036854775807)) then (bif (decide ((rest ++ endsT (f.2.2.2.2.2.take j)).length + ((y_5 ++ y_6) ++ y_7).length ≤ 9223372036854775807)) then (kk (((rest ++ endsT (f.2.2.2.2.2.take j)) ++ ((y_5 ++ y_6) ++ y_7)), (IntKind.wrap .i64 ((j : Int) + 1)))) else none) else none)) else none))) = k7 (rest ++ endsT f.2.2.2.2.2, IntKind.wrap .i64 ((i : Int) + 1), m) := by
      rintro a rfl
      rw [putP n _ (by simp; omega) (by simp), wordP n _ (by omega), putP n _ (by simp; omega) (by simp)]
      simp only [Option.bind_some]
      rw [decide_eq_true (by simp [putV_len])]
      simp only [cond_true, Option.bind_some]
      rw [decide_eq_true (by simp [putV_len])]
      simp only [cond_true]
      rw [decide_eq_true (by simp only [List.length_append, putV_len, List.length_cons, List.length_nil]; omega)]
      simp only [cond_true]
      rw [endT3 hdo, w64 (n := (j : Int) + 1) (by omega) (by omega)]
      refine ih _ ⟨j + 1, by omega, ?_⟩ (by simp only [Int.toNat_natCast]; omega)
      rw [takeD _ j ((0 : Int), (false, ((0 : Int), ((0 : Int), (0 : Int))))) hjl, hd, endsT_snoc, List.append_assoc]; rfl
    rw [decide_eq_true (show (j : Int) < (f.2.2.2.2.2.length : Int) by omega), inb_true (by omega) (by omega)]
    simp only [hd, cond_true]
    cases hin : d.2.1 with
    | true =>
      simp only [cond_true]
      rw [w64 (n := d.1 + 128) (by have := hdo.1; omega) (by have := hdo.1; omega)]
      exact key _ (by simp [endA, hin])
    | false =>
      simp only [cond_false]
      exact key _ (by simp [endA, hin])
  · obtain rfl : j = f.2.2.2.2.2.length := by omega
    rw [decide_eq_false (by omega), List.take_of_length_le (by omega)]; rfl
theorem endsE_step (A : List CK) (l : List CEnd) (j : Nat) (d : CEnd) (hj : j < l.length) (hd : l.getD j ((0 : Int), (false, ((0 : Int), ((0 : Int), (0 : Int))))) = d) : endsE (A ++ keysE (l.take j)) (l.drop j) = if endOk d then (if keyE d ∈ A ++ keysE (l.take j) then 13 else endsE (A ++ keysE (l.take (j + 1))) (l.drop (j + 1))) else 1 := by
  rw [dropC l j ((0 : Int), (false, ((0 : Int), ((0 : Int), (0 : Int))))) hj, takeD l j ((0 : Int), (false, ((0 : Int), ((0 : Int), (0 : Int))))) hj, hd]
  simp only [endsE, keysE, List.map_append, List.map_cons, List.map_nil, List.append_assoc]
theorem p189 (n : Nat) (hn : 100 < n) (k7 : CTx × Int × CM → Option (CTx × Int)) (Fs : List CFace) (i : Nat) (f : CFace) (hf : Fs.getD i ((0 : Int), ((0 : Int), ((0 : Int), ((0 : Int), (([] : List (List UInt8)), ([] : List (Int × Bool × Int × Int × Int))))))) = f) (rest : CTx) (m : CM) (A : List CK) (hm : MapOf m A) (h4 : f.2.2.2.2.2.length ≤ 4) :
    loopF (F32_l189 n k7 Fs rest (i : Int)) n (0, m) = if endsE A f.2.2.2.2.2 = 0 then F32_j173 n k7 Fs rest (i : Int) (0, mapAll m f.2.2.2.2.2) else some ([], endsE A f.2.2.2.2.2) := by
  refine loopF_eq (F32_l189 n k7 Fs rest (i : Int)) (fun _ => if endsE A f.2.2.2.2.2 = 0 then F32_j173 n k7 Fs rest (i : Int) (0, mapAll m f.2.2.2.2.2) else some ([], endsE A f.2.2.2.2.2)) (fun d => ∃ j : Nat, j ≤ f.2.2.2.2.2.length ∧ d = ((j : Int), mapAll m (f.2.2.2.2.2.take j)) ∧ MapOf (mapAll m (f.2.2.2.2.2.take j)) (A ++ keysE (f.2.2.2.2.2.take j)) ∧ endsE A f.2.2.2.2.2 = endsE (A ++ keysE (f.2.2.2.2.2.take j)) (f.2.2.2.2.2.drop j)) (fun d => f.2.2.2.2.2.length - d.1.toNat) ?_ n (0, m) ⟨0, by omega, by simp [mapAll], by simpa [mapAll, keysE] using hm, by simp [keysE]⟩ (by simp; omega)
  rintro kk d ⟨j, hj, rfl, hmo, hee⟩ ih
  simp only [F32_l189, Int.toNat_natCast, hf]
  by_cases hjl : j < f.2.2.2.2.2.length
  · obtain ⟨d, hd⟩ : ∃ d, f.2.2.2.2.2.getD j ((0 : Int), (false, ((0 : Int), ((0 : Int), (0 : Int))))) = d := ⟨_, rfl⟩
    rw [decide_eq_true (show (j : Int) < (f.2.2.2.2.2.length : Int) by omega), inb_true (by omega) (by omega)]
    simp only [hd, cond_true]
    rw [endsE_step A _ j d hjl hd] at hee
    have kt : F32_j190 n k7 kk Fs rest (i : Int) (j : Int) (mapAll m (f.2.2.2.2.2.take j)) true = some ([], 1) := by
      simp only [F32_j190, cond_true]
      exact j173_bad n k7 Fs rest _ 1 _ (by omega)
    rw [withinV n 3 _ (by simp; omega) (by simp), bytesB n _ (by simp; omega) (by simp)]
    simp only [Option.bind_some, allIn, List.all_cons, List.all_nil, Bool.and_true]
    by_cases hok : endOk d
    · obtain ⟨g1, g2, g3, g4⟩ := hok
      rw [if_pos ⟨g1, g2, g3, g4⟩] at hee
      rw [decide_eq_false (by omega), decide_eq_false (by omega), decide_eq_true (show inR2 3 d.2.2.1 from g2), decide_eq_false (by omega), decide_eq_false (by omega), decide_eq_true (show inR2 255 d.2.2.2.2 from g4)]
      simp only [cond_false, Bool.not_true, F32_j190, Int.toNat_natCast, hf, hd]
      rw [MapOf.get hmo]
      by_cases hin : keyE d ∈ A ++ keysE (f.2.2.2.2.2.take j)
      · rw [if_pos hin] at hee
        rw [show decide ((d.1, d.2.1) ∈ A ++ keysE (f.2.2.2.2.2.take j)) = true from decide_eq_true hin, hee, if_neg (by omega)]
        simp only [cond_true]
        exact j173_bad n k7 Fs rest _ 13 _ (by omega)
      · rw [if_neg hin] at hee
        obtain ⟨q1, q2⟩ := hmo.put hin
        rw [show decide ((d.1, d.2.1) ∈ A ++ keysE (f.2.2.2.2.2.take j)) = false from decide_eq_false hin, show mapPut (.st (.pair (.int .i64) .bool)) .bool (d.1, d.2.1) true (mapAll m (f.2.2.2.2.2.take j)) = _ from q1, w64 (n := (j : Int) + 1) (by omega) (by omega)]
        simp only [cond_false]
        have e1 : mapAll m (f.2.2.2.2.2.take j) ++ [(keyE d, true)] = mapAll m (f.2.2.2.2.2.take (j + 1)) := by
          rw [takeD _ j ((0 : Int), (false, ((0 : Int), ((0 : Int), (0 : Int))))) hjl, hd]; simp [mapAll]
        have e2 : (A ++ keysE (f.2.2.2.2.2.take j)) ++ [keyE d] = A ++ keysE (f.2.2.2.2.2.take (j + 1)) := by
          rw [takeD _ j ((0 : Int), (false, ((0 : Int), ((0 : Int), (0 : Int))))) hjl, hd]; simp [keysE]
        rw [e1, e2] at q2
        exact ih _ ⟨j + 1, by omega, by rw [← e1]; rfl, q2, hee⟩ (by simp only; omega)
    · rw [if_neg hok] at hee
      rw [hee, if_neg (by omega)]
      by_cases c1 : d.1 < 1
      · rw [decide_eq_true c1]; exact kt
      rw [decide_eq_false c1]
      by_cases c2 : d.1 > 15
      · rw [decide_eq_true c2]; exact kt
      rw [decide_eq_false c2]
      by_cases c3 : inR2 3 d.2.2.1
      · rw [decide_eq_true c3]
        by_cases c4 : d.2.2.2.1 < 1
        · rw [decide_eq_true c4]; exact kt
        rw [decide_eq_false c4]
        by_cases c5 : d.2.2.2.1 > 64
        · rw [decide_eq_true c5]; exact kt
        rw [decide_eq_false c5]
        have c6 : ¬ inR2 255 d.2.2.2.2 := fun c6 => hok ⟨by omega, c3, by omega, c6⟩
        rw [decide_eq_false c6]; exact kt
      · rw [decide_eq_false c3]; exact kt
  · obtain rfl : j = f.2.2.2.2.2.length := by omega
    rw [List.drop_of_length_le (by omega)] at hee
    have h0 : endsE A f.2.2.2.2.2 = 0 := hee
    rw [decide_eq_false (by omega), List.take_of_length_le (by omega), if_pos h0]; rfl
theorem exP (n : Nat) (x : CTx) : F91 n x = some (decide (exOk x)) := by
  unfold F91
  have hb := UInt8.toNat_lt (x.getD 0 0)
  by_cases h1 : 2 ≤ x.length
  · rw [decide_eq_true (show ((x.length : Nat) : Int) ≥ 2 by omega)]
    by_cases h2 : x.length ≤ 32
    · rw [decide_eq_true (show ((x.length : Nat) : Int) ≤ 32 by omega), inb_true (by omega) (by omega), inb_true (by omega) (by omega), w64 (n := (((x.getD 0 0).toNat : Nat) : Int)) (by omega) (by omega)]
      simp only [cond_true]
      by_cases h3 : (x.getD 0 0).toNat = x.length
      · rw [show (((((x.getD 0 0).toNat : Nat) : Int) == ((x.length : Nat) : Int))) = true from beq_iff_eq.2 (by rw [h3])]
        simp only [cond_true, Option.some.injEq, exOk, h1, h2, h3, true_and, and_self]
        by_cases h4 : 6 ≤ (x.getD 1 0).toNat
        · rw [decide_eq_true (by omega), decide_eq_true (by omega)]
        · rw [decide_eq_false (by omega), decide_eq_false (by omega)]
      · rw [show (((((x.getD 0 0).toNat : Nat) : Int) == ((x.length : Nat) : Int))) = false from beq_eq_false_iff_ne.2 (by omega), decide_eq_false (show ¬ exOk x from fun h => h3 h.2.1)]; rfl
    · rw [decide_eq_false (show ¬ ((x.length : Nat) : Int) ≤ 32 by omega), decide_eq_false (show ¬ exOk x from fun h => by have := h.1; omega)]; rfl
  · rw [decide_eq_false (show ¬ ((x.length : Nat) : Int) ≥ 2 by omega), decide_eq_false (show ¬ exOk x from fun h => by have := h.1; omega)]; rfl
end Go.Proofs.Ytdgdkbpmmemphaa
