/- Packets as levels, and levels as packets; in plain Lean. -/
import Derived.Test.YthihcmehaekiiaaDoorSBits
import Derived.Test.YthihcmehaekiiaaDoorSStuff2
import Derived.Test.YthihcmehaekiiaaDoorAm22
namespace Go.Proofs.YthihcmehaekiiaaDoor
open Go Go.RowKit
set_option linter.unusedVariables false

/-! Send -/
theorem stV_len (row : Tx) : (stV row).1.length ≤ 2 * row.length := by
  unfold stV
  split
  · simp
  · exact stF_len row 0
theorem turnV_len (row : Tx) (level : Int) : (turnV row level).1.length ≤ row.length := by
  unfold turnV
  split
  · simp
  · simp [strOf]
theorem sendsN (n : Nat) (hn : 140737488355338 < n) (s : Tx) : F8 n s = some true := by
  unfold F8 F26 F27
  by_cases h0 : s = []
  · subst h0; rfl
  · have hl : s.length ≠ 0 := fun e => h0 (List.length_eq_zero_iff.1 e)
    rw [show (s == ([] : Tx)) = false from beq_eq_false_iff_ne.2 h0, show (((s.length : Nat) : Int) == 0) = false from beq_eq_false_iff_ne.2 (by omega)]
    simp only [cond_false]
    by_cases h80 : s.length > 80
    · rw [decide_eq_true (show ((s.length : Nat) : Int) > 80 by omega)]; rfl
    · have hd := Bk.dig_len (Bk.tb s) (8 * s.length)
      rw [decide_eq_false (show ¬ ((s.length : Nat) : Int) > 80 by omega), bitsP n s (by omega) (by omega), Bk.bitsV n s (by omega) (by omega)]
      generalize Bk.dig (Bk.tb s) (8 * s.length) = d at hd ⊢
      have hc : ([48, 48, 48, 48, 48, 48, 48, 49] : Tx).length + d.length ≤ 9223372036854775807 := by simp only [List.length_cons, List.length_nil]; omega
      have hl2 : (([48, 48, 48, 48, 48, 48, 48, 49] : Tx) ++ d).length = 8 + d.length := by rw [List.length_append]; rfl
      simp only [cond_false, Option.bind_some]
      rw [decide_eq_true hc]
      generalize ([48, 48, 48, 48, 48, 48, 48, 49] : Tx) ++ d = r at hl2 ⊢
      have h1 := stV_len r
      have h2 := turnV_len (stV r).1 74
      simp only [cond_true]
      rw [stuffPV n hn r (by omega), stuffRV n hn r (by omega)]
      simp only [Option.bind_some]
      rw [turnPV n hn _ 74 (by omega), turnRV n hn _ 74 (by omega)]
      simp only [Option.bind_some]
      rw [decide_eq_true (show (turnV (stV r).1 74).1.length + ([48, 48, 74] : Tx).length ≤ 9223372036854775807 by simp only [List.length_cons, List.length_nil]; omega)]
      simp
theorem phySends_says (a0 : Sh.T .str) (g0 : Sh.good .str a0) : ∃ n, F8 n a0 = some true := ⟨1125899906842624, sendsN _ (by omega) a0⟩
/-! Piece -/
theorem unF_ge : ∀ (l : Tx) (o : Nat) (acc : Tx), (unF o l acc).2 = 0 → acc.length ≤ (unF o l acc).1.length
  | [], o, acc, h => by
    simp only [unF] at h ⊢
    split at h
    · cases h
    · rename_i hh; rw [if_neg hh]; exact Nat.le_refl _
  | c :: l, o, acc, h => by
    simp only [unF] at h ⊢
    split at h
    · rename_i hh
      rw [if_pos hh]
      split at h
      · cases h
      · rename_i h2
        rw [if_neg h2]
        exact unF_ge l 0 acc h
    · rename_i hh
      rw [if_neg hh]
      split at h
      · rename_i h2
        rw [if_pos h2]
        have := unF_ge l 0 _ h
        simp only [List.length_append, List.length_cons, List.length_nil] at this
        omega
      · rename_i h2
        rw [if_neg h2]
        have := unF_ge l (o + 1) _ h
        simp only [List.length_append, List.length_cons, List.length_nil] at this
        omega
theorem unF_le : ∀ (l : Tx) (o : Nat) (acc : Tx), (unF o l acc).1.length ≤ acc.length + l.length
  | [], o, acc => by
    simp only [unF]
    split <;> simp
  | c :: l, o, acc => by
    have h0 := unF_le l 0 acc
    have h1 := unF_le l 0 (acc ++ [c])
    have h2 := unF_le l (o + 1) (acc ++ [c])
    simp only [List.length_append, List.length_cons, List.length_nil] at h1 h2 ⊢
    simp only [unF]
    split
    · split
      · simp
      · omega
    · split
      · omega
      · omega
abbrev pat8 : Tx := [48, 48, 48, 48, 48, 48, 48, 49]
abbrev lev8 : Tx := [75, 74, 75, 74, 75, 74, 75, 75]
def chg (x p : UInt8) : UInt8 := if x = p then 49 else 48
theorem pat_lev (a b c d e f g h : UInt8) (ha : a = 74 ∨ a = 75) (hb : b = 74 ∨ b = 75) (hc : c = 74 ∨ c = 75) (hd : d = 74 ∨ d = 75) (he : e = 74 ∨ e = 75) (hf : f = 74 ∨ f = 75) (hg : g = 74 ∨ g = 75) (hh : h = 74 ∨ h = 75) :
    (([chg a 74, chg b a, chg c b, chg d c, chg e d, chg f e, chg g f, chg h g] : Tx) == pat8) = (([a, b, c, d, e, f, g, h] : Tx) == lev8) := by
  rcases ha with rfl | rfl
  · rfl
  rcases hb with rfl | rfl
  rotate_left
  · rfl
  rcases hc with rfl | rfl
  · rfl
  rcases hd with rfl | rfl
  rotate_left
  · rfl
  rcases he with rfl | rfl
  · rfl
  rcases hf with rfl | rfl
  rotate_left
  · rfl
  rcases hg with rfl | rfl
  · rfl
  rcases hh with rfl | rfl <;> rfl
theorem rowU_chg (s : Tx) (x p : UInt8) (j : Nat) (h1 : s.getD j 0 = x) (h2 : pvL s 74 j = ((p.toNat : Nat) : Int)) : UInt8.ofNat (rowU s 74 j).toNat = chg x p := by
  unfold rowU chg
  rw [h1, h2]
  by_cases h : x = p
  · subst h; rw [if_pos rfl, if_pos rfl]; rfl
  · rw [if_neg (fun e => h (UInt8.toNat.inj (by omega))), if_neg h]; rfl
theorem take8 (s : Tx) (h8 : 8 ≤ s.length) (hb : ∀ x ∈ s, x = 74 ∨ x = 75) : ((strOf ((List.range s.length).map (rowU s 74))).take 8 == pat8) = (s.take 8 == lev8) := by
  have hg : ∀ j, j < s.length → s.getD j 0 = 74 ∨ s.getD j 0 = 75 := fun j hj => hb _ (by rw [List.getD_eq_getElem?_getD, List.getElem?_eq_getElem hj]; exact List.getElem_mem hj)
  have e1 : (strOf ((List.range s.length).map (rowU s 74))).take 8 = strOf ((List.range 8).map (rowU s 74)) := by
    unfold strOf
    rw [← List.map_take, ← List.map_take, List.take_range, Nat.min_eq_left h8]
  have e2 : s.take 8 = (List.range 8).map fun j => s.getD j 0 := by
    apply List.ext_getElem
    · simp; omega
    · intro j h1 h2
      have hj : j < 8 := by simpa using h2
      simp [List.getD_eq_getElem?_getD, List.getElem?_eq_getElem (show j < s.length by omega)]
  have hp : ∀ j, pvL s 74 (j + 1) = (((s.getD j 0).toNat : Nat) : Int) := fun j => rfl
  rw [e1, e2]
  show ([UInt8.ofNat (rowU s 74 0).toNat, UInt8.ofNat (rowU s 74 1).toNat, UInt8.ofNat (rowU s 74 2).toNat, UInt8.ofNat (rowU s 74 3).toNat, UInt8.ofNat (rowU s 74 4).toNat, UInt8.ofNat (rowU s 74 5).toNat, UInt8.ofNat (rowU s 74 6).toNat, UInt8.ofNat (rowU s 74 7).toNat] == pat8) =
    ([s.getD 0 0, s.getD 1 0, s.getD 2 0, s.getD 3 0, s.getD 4 0, s.getD 5 0, s.getD 6 0, s.getD 7 0] == lev8)
  rw [rowU_chg s _ 74 0 rfl rfl, rowU_chg s _ _ 1 rfl (hp 0), rowU_chg s _ _ 2 rfl (hp 1), rowU_chg s _ _ 3 rfl (hp 2), rowU_chg s _ _ 4 rfl (hp 3), rowU_chg s _ _ 5 rfl (hp 4), rowU_chg s _ _ 6 rfl (hp 5), rowU_chg s _ _ 7 rfl (hp 6)]
  exact pat_lev _ _ _ _ _ _ _ _ (hg 0 (by omega)) (hg 1 (by omega)) (hg 2 (by omega)) (hg 3 (by omega)) (hg 4 (by omega)) (hg 5 (by omega)) (hg 6 (by omega)) (hg 7 (by omega))
theorem rowU_bits (s : Tx) : onlyB (strOf ((List.range s.length).map (rowU s 74))) [48, 49] = true := by
  refine List.all_eq_true.2 fun x hx => ?_
  unfold strOf at hx
  obtain ⟨y, hy, rfl⟩ := List.mem_map.1 hx
  obtain ⟨j, _, rfl⟩ := List.mem_map.1 hy
  unfold rowU
  split <;> rfl
/-- what a packet's levels carry, behind the head -/
def pcV (r : Tx) : Tx × Int :=
  if (unV2 r).2 ≠ 0 then ([], (unV2 r).2) else
    if (byV ((unV2 r).1.drop 8)).2 ≠ 0 then ([], (byV ((unV2 r).1.drop 8)).2) else
      if (byV ((unV2 r).1.drop 8)).1 = [] then ([], 3) else if (byV ((unV2 r).1.drop 8)).1.length > 80 then ([], 2) else ((byV ((unV2 r).1.drop 8)).1, 0)
def pieceV (s : Tx) : Tx × Int :=
  if onlyB s [74, 75] = false then ([], 4) else if s.length < 8 ∨ (s.take 8 == lev8) = false then ([], 7) else pcV (strOf ((List.range s.length).map (rowU s 74)))
theorem unV2_len (r : Tx) : (unV2 r).1.length ≤ r.length := by
  unfold unV2
  split
  · simp
  · have := unF_le r 0 []
    simpa using this
theorem unV2_ge (r : Tx) (ho : onlyB r [48, 49] = true) (hp : (r.take 8 == pat8) = true) (h : (unV2 r).2 = 0) : 8 ≤ (unV2 r).1.length := by
  have e : r = pat8 ++ r.drop 8 := by
    have := eq_of_beq hp
    rw [← this, List.take_append_drop]
  unfold unV2 at h ⊢
  rw [ho] at h ⊢
  simp only [Bool.true_eq_false, if_false] at h ⊢
  have e2 : unF 0 r [] = unF 1 (r.drop 8) pat8 := by
    conv => lhs; rw [e]
    rfl
  rw [e2] at h ⊢
  exact unF_ge (r.drop 8) 1 pat8 h
theorem byV_err (r : Tx) (h : (byV r).2 ≠ 0) : (byV r).1 = [] := by
  unfold byV at h ⊢
  split
  · rfl
  · split
    · rfl
    · rename_i h1 h2
      rw [if_neg h1, if_neg h2] at h
      exact absurd rfl h
theorem beq_nil (l : Tx) : (l == ([] : Tx)) = decide (l = []) := by cases l <;> rfl
theorem bne_int (x : Int) : (x != 0) = decide (x ≠ 0) := by
  by_cases h : x = 0
  · subst h; rfl
  · rw [decide_eq_true h]; exact bne_iff_ne.2 h
theorem subB8 (l : Tx) (h : 8 ≤ l.length) : subB l.length (some 8) none = true := by
  simp only [subB, Bool.and_eq_true, decide_eq_true_eq]; omega
theorem piecePV (n : Nat) (hn : 140737488355338 < n) (s : Tx) (hs : s.length ≤ 1048576) : F21 n s = some (pieceV s) := by
  unfold F21 pieceV
  rw [unPV n hn s 74 (by omega)]
  simp only [Option.bind_some]
  cases ho : onlyB s [74, 75] with
  | false => simp [unV, ho]
  | true =>
    have hb : ∀ x ∈ s, x = 74 ∨ x = 75 := fun x hx => by
      have := (List.all_eq_true.1 ho) x hx
      simpa using this
    have hrl : (strOf ((List.range s.length).map (rowU s 74))).length = s.length := by simp [strOf]
    have hro := rowU_bits s
    have hu : unV s 74 = (strOf ((List.range s.length).map (rowU s 74)), 0) := by
      unfold unV
      rw [if_neg (by rw [ho]; simp)]
    rw [hu]
    have ht := take8 s
    generalize strOf ((List.range s.length).map (rowU s 74)) = r at hrl hro ht ⊢
    rw [show ((r, (0 : Int)).2 != 0) = false from rfl, if_neg (by simp)]
    simp only [cond_false, F39, F50, hrl]
    by_cases h8 : s.length < 8
    · rw [decide_eq_false (show ¬ ((s.length : Nat) : Int) ≥ ((([48, 48, 48, 48, 48, 48, 48, 49] : Tx).length : Nat) : Int) by simp only [List.length_cons, List.length_nil]; omega), if_pos (Or.inl h8)]
      rfl
    · rw [decide_eq_true (show ((s.length : Nat) : Int) ≥ ((([48, 48, 48, 48, 48, 48, 48, 49] : Tx).length : Nat) : Int) by simp only [List.length_cons, List.length_nil]; omega),
        show subB s.length none (some ((([48, 48, 48, 48, 48, 48, 48, 49] : Tx).length : Nat) : Int)) = true by simp only [subB, List.length_cons, List.length_nil, Bool.and_eq_true, decide_eq_true_eq]; omega]
      have ht2 := ht (by omega) hb
      simp only [cond_true, Option.bind_some]
      rw [show (r.take (((([48, 48, 48, 48, 48, 48, 48, 49] : Tx).length : Nat) : Int).toNat) == ([48, 48, 48, 48, 48, 48, 48, 49] : Tx)) = (r.take 8 == pat8) from rfl, ht2]
      cases hl : (s.take 8 == lev8) with
      | false => rw [if_pos (Or.inr rfl)]; rfl
      | true =>
        rw [hl] at ht2
        rw [if_neg (by simp; omega), unstuffPV n hn r (by omega)]
        simp only [Bool.not_true, cond_false, Option.bind_some, bne_int]
        unfold pcV
        by_cases hu : (unV2 r).2 = 0
        · have hge := unV2_ge r hro ht2 hu
          have hle := unV2_len r
          rw [decide_eq_false (by simpa using hu), subB8 _ hge, if_neg (by simpa using hu), bytesPV n hn _ (by rw [List.length_drop]; omega)]
          simp only [cond_false, cond_true, Option.bind_some, beq_nil]
          generalize byV ((unV2 r).1.drop 8) = y
          by_cases h1 : y.2 = 0
          · rw [decide_eq_false (by simpa using h1), if_neg (by simpa using h1)]
            by_cases h2 : y.1 = []
            · rw [decide_eq_true h2, if_pos h2]; rfl
            · rw [decide_eq_false h2, if_neg h2]
              by_cases h3 : y.1.length > 80
              · rw [decide_eq_true (show ((y.1.length : Nat) : Int) > 80 by omega), if_pos h3]; rfl
              · rw [decide_eq_false (show ¬ ((y.1.length : Nat) : Int) > 80 by omega), if_neg h3]; rfl
          · rw [decide_eq_true h1, if_pos h1]; rfl
        · rw [decide_eq_true hu, if_pos hu]; rfl
theorem pieceRV (n : Nat) (hn : 140737488355338 < n) (s : Tx) (hs : s.length ≤ 1048576) : F22 n s = some (pieceV s) := by
  unfold F22 pieceV
  rw [onlyP n s _ (by omega) hn]
  simp only [Option.bind_some]
  cases ho : onlyB s [74, 75] with
  | false => rfl
  | true =>
    have hb : ∀ x ∈ s, x = 74 ∨ x = 75 := fun x hx => by
      have := (List.all_eq_true.1 ho) x hx
      simpa using this
    have hrl : (strOf ((List.range s.length).map (rowU s 74))).length = s.length := by simp [strOf]
    have hro := rowU_bits s
    have hu : unV s 74 = (strOf ((List.range s.length).map (rowU s 74)), 0) := by
      unfold unV
      rw [if_neg (by rw [ho]; simp)]
    have ht := take8 s
    simp only [Bool.not_true, cond_false]
    rw [if_neg (by simp)]
    by_cases h8 : s.length < 8
    · rw [decide_eq_true (show ((s.length : Nat) : Int) < 8 by omega), if_pos (Or.inl h8)]; rfl
    · have ht2 := ht (by omega) hb
      rw [decide_eq_false (show ¬ ((s.length : Nat) : Int) < 8 by omega), show subB s.length none (some 8) = true by simp only [subB, Bool.and_eq_true, decide_eq_true_eq]; omega]
      simp only [cond_false, cond_true]
      cases hl : (s.take 8 == lev8) with
      | false => rw [if_pos (Or.inr rfl)]; rfl
      | true =>
        rw [hl] at ht2
        rw [if_neg (by simp; omega), unRV n hn s 74 (by omega), hu]
        generalize strOf ((List.range s.length).map (rowU s 74)) = r at hrl hro ht2 ⊢
        simp only [Bool.not_true, cond_false, Option.bind_some]
        rw [unstuffRV n hn r (by omega)]
        simp only [Option.bind_some, bne_int]
        unfold pcV
        by_cases hu : (unV2 r).2 = 0
        · have hge := unV2_ge r hro ht2 hu
          have hle := unV2_len r
          rw [decide_eq_false (by simpa using hu), subB8 _ hge, if_neg (by simpa using hu), bytesRV n hn _ (by rw [List.length_drop]; omega)]
          simp only [cond_false, cond_true, Option.bind_some, beq_nil, F22_j4, F22_j5, F22_j6, bne_int]
          have he := byV_err ((unV2 r).1.drop 8)
          generalize byV ((unV2 r).1.drop 8) = y at he ⊢
          by_cases h1 : y.2 = 0
          · rw [show (y.2 == 0) = true from beq_iff_eq.2 h1, if_neg (by simpa using h1)]
            by_cases h2 : y.1 = []
            · rw [decide_eq_true h2, if_pos h2, h2]; rfl
            · rw [decide_eq_false h2, if_neg h2]
              by_cases h3 : y.1.length > 80
              · rw [decide_eq_true (show ((y.1.length : Nat) : Int) > 80 by omega), if_pos h3]; rfl
              · rw [decide_eq_false (show ¬ ((y.1.length : Nat) : Int) > 80 by omega), if_neg h3, decide_eq_false (show ¬ (y.2 ≠ 0) by simpa using h1)]; rfl
          · rw [show (y.2 == 0) = false from beq_eq_false_iff_ne.2 h1, if_pos h1, he h1, decide_eq_true h1]; rfl
        · rw [decide_eq_true hu, if_pos hu]; rfl
theorem piecesN (n : Nat) (hn : 140737488355338 < n) (s : Tx) (hs : s.length ≤ 1048576) : F6 n s = some true := by
  unfold F6
  rw [piecePV n hn s hs, pieceRV n hn s hs]
  simp
theorem phyPieces_says (a0 : Sh.T .str) (g0 : Sh.good .str a0) (u0 : Sh.bulk .str a0 ≤ 1048576) : ∃ n, F6 n a0 = some true := by
  have h0 : List.length a0 ≤ 1048576 := by simp only [Sh.bulk] at u0; omega
  exact ⟨1125899906842624, piecesN _ (by omega) a0 h0⟩
end Go.Proofs.YthihcmehaekiiaaDoor
