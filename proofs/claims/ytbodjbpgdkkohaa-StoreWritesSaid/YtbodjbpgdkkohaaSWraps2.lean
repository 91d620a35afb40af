/- The law BulkWraps, in plain Lean (second part: a wrapper is read; the law). -/
import Derived.Test.YtbodjbpgdkkohaaSWraps
namespace Go.Proofs.Ytbodjbpgdkkohaa
open Go Go.RowKit
set_option linter.unusedVariables false

def byN (s : Tx) (i : Nat) : Nat := (s.getD i 0).toNat
theorem byN_lt (s : Tx) (i : Nat) : byN s i < 256 := (s.getD i 0).toNat_lt
/-- four bytes as a number -/
def four (s : Tx) (i : Nat) : Nat := byN s i + 256 * byN s (i + 1) + 65536 * byN s (i + 2) + 16777216 * byN s (i + 3)
theorem four_lt (s : Tx) (i : Nat) : four s i < 4294967296 := by
  have := byN_lt s i
  have := byN_lt s (i + 1)
  have := byN_lt s (i + 2)
  have := byN_lt s (i + 3)
  unfold four; omega
theorem longAtP (n : Nat) (s : Tx) (i : Nat) (h : i + 3 < s.length) (hs : i < 1000000) : F62 n s (i : Int) = some (four s i : Int) := by
  have b0 := byN_lt s i
  have b1 := byN_lt s (i + 1)
  have b2 := byN_lt s (i + 2)
  have b3 := byN_lt s (i + 3)
  unfold F62
  rw [w64 (n := (i : Int) + 1) (by omega) (by omega), w64 (n := (i : Int) + 2) (by omega) (by omega), w64 (n := (i : Int) + 3) (by omega) (by omega), inb_true (show (0 : Int) ≤ i by omega) (show (i : Int) < (s.length : Nat) by omega), inb_true (show (0 : Int) ≤ (i : Int) + 1 by omega) (show (i : Int) + 1 < (s.length : Nat) by omega), inb_true (show (0 : Int) ≤ (i : Int) + 2 by omega) (show (i : Int) + 2 < (s.length : Nat) by omega), inb_true (show (0 : Int) ≤ (i : Int) + 3 by omega) (show (i : Int) + 3 < (s.length : Nat) by omega)]
  rw [Int.toNat_natCast, show ((i : Int) + 1).toNat = i + 1 by omega, show ((i : Int) + 2).toNat = i + 2 by omega, show ((i : Int) + 3).toNat = i + 3 by omega]
  simp only [cond_true, Option.some.injEq]
  show bitsI .or .i64 (bitsI .or .i64 (bitsI .or .i64 (IntKind.wrap .i64 (byN s i : Int)) (shlI .i64 (IntKind.wrap .i64 (byN s (i + 1) : Int)) 8)) (shlI .i64 (IntKind.wrap .i64 (byN s (i + 2) : Int)) 16)) (shlI .i64 (IntKind.wrap .i64 (byN s (i + 3) : Int)) 24) = _
  unfold four
  generalize byN s i = a at *
  generalize byN s (i + 1) = b at *
  generalize byN s (i + 2) = c at *
  generalize byN s (i + 3) = d at *
  have s1 := shl_mul b 8 (by omega) (by omega)
  have s2 := shl_mul c 16 (by omega) (by omega)
  have s3 := shl_mul d 24 (by omega) (by omega)
  rw [show ((8 : Nat) : Int) = 8 from rfl] at s1
  rw [show ((16 : Nat) : Int) = 16 from rfl] at s2
  rw [show ((24 : Nat) : Int) = 24 from rfl] at s3
  rw [w64 (n := (a : Int)) (by omega) (by omega), w64 (n := (b : Int)) (by omega) (by omega), w64 (n := (c : Int)) (by omega) (by omega), w64 (n := (d : Int)) (by omega) (by omega), s1, s2, s3, bOrAdd a b 8 (by omega) (by omega), bOrAdd _ c 16 (by omega) (by omega), bOrAdd _ d 24 (by omega) (by omega)]
  omega
theorem wordR (n : Nat) (s : Tx) (i : Nat) (h : i + 1 < s.length) (hs : i < 1000000) : F88 n s (i : Int) = some ((byN s i + 256 * byN s (i + 1) : Nat) : Int) := by
  have b0 := byN_lt s i
  have b1 := byN_lt s (i + 1)
  unfold F88
  rw [w64 (n := (i : Int) + 1) (by omega) (by omega), inb_true (show (0 : Int) ≤ i by omega) (show (i : Int) < (s.length : Nat) by omega), inb_true (show (0 : Int) ≤ (i : Int) + 1 by omega) (show (i : Int) + 1 < (s.length : Nat) by omega)]
  rw [Int.toNat_natCast, show ((i : Int) + 1).toNat = i + 1 by omega]
  simp only [cond_true, Option.some.injEq]
  show IntKind.wrap .i64 (IntKind.wrap .i64 (256 * IntKind.wrap .i64 (byN s (i + 1) : Int)) + IntKind.wrap .i64 (byN s i : Int)) = _
  generalize byN s i = a at *
  generalize byN s (i + 1) = b at *
  rw [w64 (n := (b : Int)) (by omega) (by omega), w64 (n := (a : Int)) (by omega) (by omega), w64 (n := 256 * (b : Int)) (by omega) (by omega), w64 (by omega) (by omega)]
  omega
theorem byN_drop (s : Tx) (i j : Nat) : byN (s.drop i) j = byN s (i + j) := by
  unfold byN
  rw [List.getD_eq_getElem?_getD, List.getElem?_drop, ← List.getD_eq_getElem?_getD]
theorem lowNumR (n : Nat) (s : Tx) (i : Nat) (h : i + 3 < s.length) (hs : i < 1000000) : F66 n (s.drop i) = some (four s i : Int) := by
  have b0 := byN_lt s i
  have b1 := byN_lt s (i + 1)
  have b2 := byN_lt s (i + 2)
  have b3 := byN_lt s (i + 3)
  have w0 := wordR n (s.drop i) 0 (by rw [List.length_drop]; omega) (by omega)
  have w2 := wordR n (s.drop i) 2 (by rw [List.length_drop]; omega) (by omega)
  rw [show ((0 : Nat) : Int) = 0 from rfl] at w0
  rw [show ((2 : Nat) : Int) = 2 from rfl] at w2
  rw [byN_drop, byN_drop] at w0 w2
  unfold F66
  rw [w0, w2]
  simp only [Option.bind_some, Option.some.injEq]
  unfold four
  rw [show i + (0 + 1) = i + 1 by omega, show i + (2 + 1) = i + 3 by omega, Nat.add_zero]
  generalize byN s i = a at *
  generalize byN s (i + 1) = b at *
  generalize byN s (i + 2) = c at *
  generalize byN s (i + 3) = d at *
  rw [w64 (n := 65536 * (((c + 256 * d : Nat)) : Int)) (by omega) (by omega), w64 (by omega) (by omega)]
  omega
theorem byte_of (s : Tx) (i : Nat) (v : Int) (h : v = (byN s i : Int)) : UInt8.ofNat v.toNat = s.getD i 0 := by
  rw [h]; exact u8_nat _
theorem lb_four (s : Tx) (i : Nat) : lb (four s i : Int) = [s.getD i 0, s.getD (i + 1) 0, s.getD (i + 2) 0, s.getD (i + 3) 0] := by
  have b0 := byN_lt s i
  have b1 := byN_lt s (i + 1)
  have b2 := byN_lt s (i + 2)
  have b3 := byN_lt s (i + 3)
  have e : (four s i : Int) = (byN s i : Int) + 256 * byN s (i + 1) + 65536 * byN s (i + 2) + 16777216 * byN s (i + 3) := by unfold four; omega
  unfold lb strOf
  simp only [List.map_cons, List.map_nil]
  rw [byte_of s i _ (by omega), byte_of s (i + 1) _ (by omega), byte_of s (i + 2) _ (by omega), byte_of s (i + 3) _ (by omega)]
theorem split4 (s : Tx) (i : Nat) (h : i + 4 ≤ s.length) : s.drop i = [s.getD i 0, s.getD (i + 1) 0, s.getD (i + 2) 0, s.getD (i + 3) 0] ++ s.drop (i + 4) := by
  have one : ∀ j, j < s.length → s.drop j = s.getD j 0 :: s.drop (j + 1) := fun j hj => by
    rw [List.drop_eq_getElem_cons hj, List.getD_eq_getElem?_getD, List.getElem?_eq_getElem hj]; rfl
  rw [one i (by omega), one (i + 1) (by omega), one (i + 2) (by omega), one (i + 3) (by omega)]; rfl
theorem split3 (s : Tx) (i : Nat) (h : i + 3 ≤ s.length) : s.drop i = [s.getD i 0, s.getD (i + 1) 0, s.getD (i + 2) 0] ++ s.drop (i + 3) := by
  have one : ∀ j, j < s.length → s.drop j = s.getD j 0 :: s.drop (j + 1) := fun j hj => by
    rw [List.drop_eq_getElem_cons hj, List.getD_eq_getElem?_getD, List.getElem?_eq_getElem hj]; rfl
  rw [one i (by omega), one (i + 1) (by omega), one (i + 2) (by omega)]; rfl
/-- when the text is what its parts make -/
theorem same31 (s : Tx) (hl : s.length = 31) (k : Nat) (h1 : 1 ≤ k) (hk : k ≤ 16) (f u : Int) (hu : u = (byN s 13 : Int)) :
    wtext (four s 4 : Int) (four s 8 : Int) f u ((s.take (15 + k)).drop 15) = s ↔ s.take 4 = head ∧ UInt8.ofNat f.toNat = s.getD 12 0 ∧ k = byN s 14 ∧ s.drop (15 + k) = zeros (16 - k) := by
  have lc : ((s.take (15 + k)).drop 15).length = k := by rw [List.length_drop, List.length_take]; omega
  have b13 := byN_lt s 13
  have b14 := byN_lt s 14
  have es : s = s.take 4 ++ (lb (four s 4 : Int) ++ (lb (four s 8 : Int) ++ ([s.getD 12 0, s.getD 13 0, s.getD 14 0] ++ ((s.take (15 + k)).drop 15 ++ s.drop (15 + k))))) := by
    rw [lb_four, lb_four]
    have e15 : (s.take (15 + k)).drop 15 ++ s.drop (15 + k) = s.drop 15 := by
      rw [List.drop_take, show 15 + k - 15 = k by omega, ← List.drop_drop]
      exact List.take_append_drop k _
    rw [e15]
    have e12 := split3 s 12 (by omega)
    have e8 := split4 s 8 (by omega)
    have e4 := split4 s 4 (by omega)
    rw [← e12, ← e8, ← e4]
    exact (List.take_append_drop 4 s).symm
  have em : mid f u k = [UInt8.ofNat f.toNat, s.getD 13 0, UInt8.ofNat k] := by
    unfold mid strOf
    simp only [List.map_cons, List.map_nil]
    rw [byte_of s 13 (IntKind.wrap .u8 u) (by rw [u8w]; omega)]
    congr 3
    rw [u8w, show (k : Int) % 256 = (k : Int) by omega]; rfl
  have ew : wtext (four s 4 : Int) (four s 8 : Int) f u ((s.take (15 + k)).drop 15) = head ++ (lb (four s 4 : Int) ++ (lb (four s 8 : Int) ++ ([UInt8.ofNat f.toNat, s.getD 13 0, UInt8.ofNat k] ++ ((s.take (15 + k)).drop 15 ++ zeros (16 - k))))) := by
    unfold wtext
    rw [lc, em]
    simp only [List.append_assoc]
  have ek : UInt8.ofNat k = s.getD 14 0 ↔ k = byN s 14 := by
    constructor
    · intro h
      have := congrArg UInt8.toNat h
      simp at this
      unfold byN
      rw [List.getD_eq_getElem?_getD]
      omega
    · intro h
      rw [h]; unfold byN; simp
  rw [ew]
  constructor
  · intro h
    replace h := h.trans es
    have a1 := List.append_inj h (by rw [List.length_take]; show 4 = _; omega)
    have a2 := List.append_inj a1.2 (by rfl)
    have a3 := List.append_inj a2.2 (by rfl)
    have a4 := List.append_inj a3.2 (by rfl)
    have a5 := List.append_inj a4.2 (by rfl)
    simp only [List.cons.injEq, true_and, and_true] at a4
    exact ⟨a1.1.symm, a4.1.1, ek.1 (by first | exact a4.1.2 | exact a4.1.2.2), a5.2.symm⟩
  · rintro ⟨h1, h2, h3, h4⟩
    conv => rhs; rw [es]
    rw [h1, h2, ek.2 h3, h4]
def noW : Int × Int × Bool × Int × Tx × Int := (0, 0, false, 0, [], 4)
theorem beqN (s : Tx) (i : Nat) (c : Nat) : ((((s.getD i 0).toNat : Nat) : Int) == (c : Int)) = decide (byN s i = c) := by
  rw [Bool.eq_iff_iff, beq_iff_eq, decide_eq_true_iff]
  unfold byN; omega
open Classical in
theorem read31 (n : Nat) (hn : 100 < n) (s : Tx) (hl : s.length = 31) : ∃ r, F29 n s = some r ∧ F33 n s = some r := by
  have b12 := byN_lt s 12
  have b13 := byN_lt s 13
  have b14 := byN_lt s 14
  have f4 := four_lt s 4
  have f8 := four_lt s 8
  have c12 : (s.getD 12 0).toNat = byN s 12 := rfl
  have c13 : (s.getD 13 0).toNat = byN s 13 := rfl
  have c14 : (s.getD 14 0).toNat = byN s 14 := rfl
  -- the program
  have P : F29 n s = if (s.take 4 = head ∧ (byN s 12 = 0 ∨ byN s 12 = 128) ∧ byN s 13 ≤ 15 ∧ (1 ≤ byN s 14 ∧ byN s 14 ≤ 16) ∧ s.drop (15 + byN s 14) = zeros (16 - byN s 14)) then some ((four s 4 : Int), (four s 8 : Int), decide (byN s 12 = 128), (byN s 13 : Int), (s.take (15 + byN s 14)).drop 15, 0) else some noW := by
    unfold F29
    have l4 := longAtP n s 4 (by omega) (by omega)
    have l8 := longAtP n s 8 (by omega) (by omega)
    rw [show ((4 : Nat) : Int) = 4 from rfl] at l4
    rw [show ((8 : Nat) : Int) = 8 from rfl] at l8
    have q128 := beqN s 12 128
    rw [show ((128 : Nat) : Int) = 128 from rfl] at q128
    rw [decide_eq_false (show ¬ ((s.length : Nat) : Int) < 31 by omega), l4, l8, inb_true (by omega) (by omega), inb_true (by omega) (by omega), inb_true (by omega) (by omega), q128, c13, c14]
    simp only [cond_false, cond_true, Option.bind_some]
    rw [w64 (n := ((byN s 14 : Nat) : Int)) (by omega) (by omega), w64 (n := ((byN s 13 : Nat) : Int)) (by omega) (by omega)]
    have em : (if (16 : Int) < ((byN s 14 : Nat) : Int) then (16 : Int) else ((byN s 14 : Nat) : Int)) = ((min (byN s 14) 16 : Nat) : Int) := by
      by_cases q : 16 < byN s 14
      · rw [if_pos (by omega), Nat.min_eq_right (by omega)]; rfl
      · rw [if_neg (by omega), Nat.min_eq_left (by omega)]
    rw [em]
    obtain ⟨k, hk⟩ : ∃ k, k = min (byN s 14) 16 := ⟨_, rfl⟩
    rw [← hk]
    have k16 : k ≤ 16 := by omega
    rw [w64 (n := 15 + (k : Int)) (by omega) (by omega), show subB s.length (some 15) (some (15 + (k : Int))) = true by simp [subB]; omega, show (15 + (k : Int)).toNat = 15 + k by omega, wrapP]
    simp only [cond_true, Option.bind_some]
    have lc : ((s.take (15 + k)).drop 15).length = k := by rw [List.length_drop, List.length_take]; omega
    unfold wrapV
    by_cases g : wgood (four s 4 : Int) (four s 8 : Int) (byN s 13 : Int) ((s.take (15 + k)).drop 15)
    · rw [if_pos g]
      have g3 := g.2.2.1
      have g4 := g.2.2.2
      rw [lc] at g4
      have sm := same31 s hl k g4.1 k16 (flagI (decide (byN s 12 = 128))) (byN s 13 : Int) rfl
      have ef : UInt8.ofNat (flagI (decide (byN s 12 = 128))).toNat = s.getD 12 0 ↔ (byN s 12 = 0 ∨ byN s 12 = 128) := by
        constructor
        · intro h
          have h2 := congrArg UInt8.toNat h
          rw [c12] at h2
          by_cases q : byN s 12 = 128
          · exact .inr q
          · rw [decide_eq_false q] at h2
            left; rw [← h2]; rfl
        · rintro (h | h)
          · rw [decide_eq_false (by omega)]
            have := byte_of s 12 0 (by rw [h]; rfl)
            exact this
          · rw [decide_eq_true h]
            have := byte_of s 12 128 (by rw [h]; rfl)
            exact this
      simp only [bne_self_eq_false, cond_false]
      by_cases q : wtext (four s 4 : Int) (four s 8 : Int) (flagI (decide (byN s 12 = 128))) (byN s 13 : Int) ((s.take (15 + k)).drop 15) = s
      · rw [show (wtext (four s 4 : Int) (four s 8 : Int) (flagI (decide (byN s 12 = 128))) (byN s 13 : Int) ((s.take (15 + k)).drop 15) == s) = true by simpa using q]
        obtain ⟨a1, a2, a3, a4⟩ := sm.1 q
        rw [if_pos ⟨a1, ef.1 a2, by omega, by omega, by rw [← a3]; exact a4⟩, ← a3]; rfl
      · rw [show (wtext (four s 4 : Int) (four s 8 : Int) (flagI (decide (byN s 12 = 128))) (byN s 13 : Int) ((s.take (15 + k)).drop 15) == s) = false by simpa using q, if_neg]
        · rfl
        · rintro ⟨a1, a2, a3, a4, a5⟩
          have : k = byN s 14 := by omega
          exact q (sm.2 ⟨a1, ef.2 a2, this, by rw [this]; exact a5⟩)
    · rw [if_neg g, if_neg]
      · rfl
      · rintro ⟨a1, a2, a3, a4, a5⟩
        exact g ⟨by omega, by omega, by omega, by rw [lc]; omega⟩
  -- the document
  have R : F33 n s = if (s.take 4 = head ∧ (byN s 12 = 0 ∨ byN s 12 = 128) ∧ byN s 13 ≤ 15 ∧ (1 ≤ byN s 14 ∧ byN s 14 ≤ 16) ∧ s.drop (15 + byN s 14) = zeros (16 - byN s 14)) then some ((four s 4 : Int), (four s 8 : Int), decide (byN s 12 = 128), (byN s 13 : Int), (s.take (15 + byN s 14)).drop 15, 0) else some noW := by
    have jt : F33_j2 n s true = some noW := rfl
    unfold F33
    rw [decide_eq_false (show ¬ ((s.length : Nat) : Int) < 31 by omega), decide_eq_false (show ¬ ((s.length : Nat) : Int) > 31 by omega), inb_true (show (0 : Int) ≤ 14 by omega) (show (14 : Int) < (s.length : Nat) by omega), inb_true (show (0 : Int) ≤ 12 by omega) (show (12 : Int) < (s.length : Nat) by omega), inb_true (show (0 : Int) ≤ 13 by omega) (show (13 : Int) < (s.length : Nat) by omega), show subB s.length none (some 4) = true by simp [subB]; omega]
    simp only [cond_false, cond_true, jt, c12, c13, c14]
    have rest : (byN s 12 = 0 ∨ byN s 12 = 128) → s.take 4 = head → (bif decide (((byN s 13 : Nat) : Int) > 15) then some noW else ((F57 n (IntKind.wrap .i64 ((byN s 14 : Nat) : Int)) 1 16).bind fun y_9 => (bif (!y_9) then some noW else (bif subB s.length (some (IntKind.wrap .i64 (15 + (IntKind.wrap .i64 ((byN s 14 : Nat) : Int))))) none then ((F39 n ([0] : Tx) (IntKind.wrap .i64 (16 - (IntKind.wrap .i64 ((byN s 14 : Nat) : Int))))).bind fun y_10 => (F33_j2 n s (!((s.drop (IntKind.wrap .i64 (15 + (IntKind.wrap .i64 ((byN s 14 : Nat) : Int)))).toNat) == y_10)))) else none)))) =
        if (s.take 4 = head ∧ (byN s 12 = 0 ∨ byN s 12 = 128) ∧ byN s 13 ≤ 15 ∧ (1 ≤ byN s 14 ∧ byN s 14 ≤ 16) ∧ s.drop (15 + byN s 14) = zeros (16 - byN s 14)) then some ((four s 4 : Int), (four s 8 : Int), decide (byN s 12 = 128), (byN s 13 : Int), (s.take (15 + byN s 14)).drop 15, 0) else some noW := by
      intro h12 h4
      by_cases q3 : byN s 13 ≤ 15
      · rw [decide_eq_false (show ¬ ((byN s 13 : Nat) : Int) > 15 by omega), w64 (n := ((byN s 14 : Nat) : Int)) (by omega) (by omega), betC]
        simp only [cond_false, Option.bind_some]
        by_cases q4 : 1 ≤ byN s 14 ∧ byN s 14 ≤ 16
        · rw [decide_eq_true (show 1 ≤ ((byN s 14 : Nat) : Int) ∧ ((byN s 14 : Nat) : Int) ≤ 16 by omega), w64 (n := 15 + ((byN s 14 : Nat) : Int)) (by omega) (by omega), w64 (n := 16 - ((byN s 14 : Nat) : Int)) (by omega) (by omega), show (16 : Int) - ((byN s 14 : Nat) : Int) = ((16 - byN s 14 : Nat) : Int) by omega, repZ n _ (by omega), show subB s.length (some (15 + ((byN s 14 : Nat) : Int))) none = true by simp [subB]; omega, show (15 + ((byN s 14 : Nat) : Int)).toNat = 15 + byN s 14 by omega]
          simp only [Bool.not_true, cond_false, cond_true, Option.bind_some]
          by_cases q5 : s.drop (15 + byN s 14) = zeros (16 - byN s 14)
          · rw [show (s.drop (15 + byN s 14) == zeros (16 - byN s 14)) = true by simpa using q5, if_pos ⟨h4, h12, q3, q4, q5⟩]
            unfold F33_j2
            rw [lowNumR n s 4 (by omega) (by omega), lowNumR n s 8 (by omega) (by omega), inb_true (show (0 : Int) ≤ 12 by omega) (show (12 : Int) < (s.length : Nat) by omega), inb_true (show (0 : Int) ≤ 13 by omega) (show (13 : Int) < (s.length : Nat) by omega), show subB s.length (some 4) none = true by simp [subB]; omega, show subB s.length (some 8) none = true by simp [subB]; omega, c12, c13, c14, w64 (n := ((byN s 14 : Nat) : Int)) (by omega) (by omega), w64 (n := 15 + ((byN s 14 : Nat) : Int)) (by omega) (by omega), show subB s.length (some 15) (some (15 + ((byN s 14 : Nat) : Int))) = true by simp [subB]; omega, show (15 + ((byN s 14 : Nat) : Int)).toNat = 15 + byN s 14 by omega, w64 (n := ((byN s 13 : Nat) : Int)) (by omega) (by omega)]
            have ed : decide (((byN s 12 : Nat) : Int) > 0) = decide (byN s 12 = 128) := by
              rw [Bool.eq_iff_iff, decide_eq_true_iff, decide_eq_true_iff]; omega
            rw [ed]; rfl
          · rw [show (s.drop (15 + byN s 14) == zeros (16 - byN s 14)) = false by simpa using q5, if_neg (fun h => q5 h.2.2.2.2)]; exact jt
        · rw [decide_eq_false (show ¬ (1 ≤ ((byN s 14 : Nat) : Int) ∧ ((byN s 14 : Nat) : Int) ≤ 16) by omega), if_neg (fun h => q4 h.2.2.2.1)]; rfl
      · rw [decide_eq_true (show ((byN s 13 : Nat) : Int) > 15 by omega), if_neg (fun h => q3 h.2.2.1)]; rfl
    by_cases q1 : s.take 4 = head
    · rw [show (s.take 4 == ([85, 83, 66, 67] : Tx)) = true by simpa [head] using q1]
      simp only [Bool.not_true, cond_false]
      by_cases q0 : byN s 12 = 0
      · rw [show (((byN s 12 : Nat) : Int) != 0) = false by rw [q0]; rfl]
        exact rest (.inl q0) q1
      · rw [show (((byN s 12 : Nat) : Int) != 0) = true by rw [bne_iff_ne]; omega]
        by_cases q8 : byN s 12 = 128
        · rw [show (((byN s 12 : Nat) : Int) != 128) = false by rw [q8]; rfl]
          exact rest (.inr q8) q1
        · rw [show (((byN s 12 : Nat) : Int) != 128) = true by rw [bne_iff_ne]; omega, if_neg (by rintro ⟨_, h | h, _⟩ <;> omega)]; rfl
    · rw [show (s.take 4 == ([85, 83, 66, 67] : Tx)) = false by simpa [head] using q1, if_neg (fun h => q1 h.1)]; rfl
  rw [P, R]
  by_cases q : (s.take 4 = head ∧ (byN s 12 = 0 ∨ byN s 12 = 128) ∧ byN s 13 ≤ 15 ∧ (1 ≤ byN s 14 ∧ byN s 14 ≤ 16) ∧ s.drop (15 + byN s 14) = zeros (16 - byN s 14))
  · rw [if_pos q]; exact ⟨_, rfl, rfl⟩
  · rw [if_neg q]; exact ⟨_, rfl, rfl⟩
theorem wtext_len (t l f u : Int) (c : Tx) (hc : c.length ≤ 16) : (wtext t l f u c).length = 31 := by
  unfold wtext
  rw [List.length_append, wl]
  simp [zeros]; omega
theorem readW (n : Nat) (hn : 100 < n) (s : Tx) : ∃ r, F29 n s = some r ∧ F33 n s = some r := by
  by_cases h1 : s.length < 31
  · unfold F29 F33
    rw [decide_eq_true (show ((s.length : Nat) : Int) < 31 by omega)]
    exact ⟨_, rfl, rfl⟩
  by_cases h2 : s.length = 31
  · exact read31 n hn s h2
  refine ⟨noW, ?_, ?_⟩
  · have b13 := byN_lt s 13
    have b14 := byN_lt s 14
    have c12 : (s.getD 12 0).toNat = byN s 12 := rfl
    have c13 : (s.getD 13 0).toNat = byN s 13 := rfl
    have c14 : (s.getD 14 0).toNat = byN s 14 := rfl
    unfold F29
    have l4 := longAtP n s 4 (by omega) (by omega)
    have l8 := longAtP n s 8 (by omega) (by omega)
    rw [show ((4 : Nat) : Int) = 4 from rfl] at l4
    rw [show ((8 : Nat) : Int) = 8 from rfl] at l8
    rw [decide_eq_false (show ¬ ((s.length : Nat) : Int) < 31 by omega), l4, l8, inb_true (by omega) (by omega), inb_true (by omega) (by omega), inb_true (by omega) (by omega), c12, c13, c14]
    simp only [cond_false, cond_true, Option.bind_some]
    rw [w64 (n := ((byN s 14 : Nat) : Int)) (by omega) (by omega), w64 (n := ((byN s 13 : Nat) : Int)) (by omega) (by omega)]
    have em : (if (16 : Int) < ((byN s 14 : Nat) : Int) then (16 : Int) else ((byN s 14 : Nat) : Int)) = ((min (byN s 14) 16 : Nat) : Int) := by
      by_cases q : 16 < byN s 14
      · rw [if_pos (by omega), Nat.min_eq_right (by omega)]; rfl
      · rw [if_neg (by omega), Nat.min_eq_left (by omega)]
    rw [em]
    obtain ⟨k, hk⟩ : ∃ k, k = min (byN s 14) 16 := ⟨_, rfl⟩
    rw [← hk]
    have k16 : k ≤ 16 := by omega
    rw [w64 (n := 15 + (k : Int)) (by omega) (by omega), show subB s.length (some 15) (some (15 + (k : Int))) = true by simp [subB]; omega, show (15 + (k : Int)).toNat = 15 + k by omega, wrapP]
    simp only [cond_true, Option.bind_some]
    have lc : ((s.take (15 + k)).drop 15).length = k := by rw [List.length_drop, List.length_take]; omega
    unfold wrapV
    by_cases g : wgood (four s 4 : Int) (four s 8 : Int) (byN s 13 : Int) ((s.take (15 + k)).drop 15)
    · rw [if_pos g]
      have : ∀ f : Int, (wtext (four s 4 : Int) (four s 8 : Int) f (byN s 13 : Int) ((s.take (15 + k)).drop 15) == s) = false := fun f => by
        rw [beq_eq_false_iff_ne]
        intro h
        have := congrArg List.length h
        rw [wtext_len _ _ _ _ _ (by omega)] at this
        omega
      simp only [bne_self_eq_false, cond_false, this]; rfl
    · rw [if_neg g]; rfl
  · unfold F33
    rw [decide_eq_false (show ¬ ((s.length : Nat) : Int) < 31 by omega), decide_eq_true (show ((s.length : Nat) : Int) > 31 by omega), inb_true (show (0 : Int) ≤ 14 by omega) (show (14 : Int) < (s.length : Nat) by omega)]
    rfl
end Go.Proofs.Ytbodjbpgdkkohaa
