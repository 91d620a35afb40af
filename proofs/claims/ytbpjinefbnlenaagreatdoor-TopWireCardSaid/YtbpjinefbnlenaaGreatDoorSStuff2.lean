import Derived.Test.YtbpjinefbnlenaaGreatDoorSTurns
import Derived.Test.YtbpjinefbnlenaaGreatDoorAm32
import Derived.Test.YtbpjinefbnlenaaGreatDoorAm22
import Derived.Test.YtbpjinefbnlenaaGreatDoorAm26
/- Runs of ones, stuffed and unstuffed; in plain Lean. -/
namespace Go.Proofs.YtbpjinefbnlenaaGreatDoor
open Go Go.RowKit
set_option linter.unusedVariables false

def bits01 (l : Tx) : Prop := ∀ x ∈ l, x = 48 ∨ x = 49
/-! Stuff -/
def stF : Nat → Tx → Tx
  | _, [] => []
  | o, c :: l => if c = 48 then c :: stF 0 l else if o = 5 then c :: 48 :: stF 0 l else c :: stF (o + 1) l
theorem stF_len : ∀ (l : Tx) (o : Nat), (stF o l).length ≤ 2 * l.length
  | [], o => by simp [stF]
  | c :: l, o => by
    have h0 := stF_len l 0
    have h1 := stF_len l (o + 1)
    simp only [stF]
    split
    · simp only [List.length_cons]; omega
    · split
      · simp only [List.length_cons]; omega
      · simp only [List.length_cons]; omega
/-! Unstuff -/
def unF : Nat → Tx → Tx → Tx × Int
  | o, [], acc => if o = 6 then ([], 3) else (acc, 0)
  | o, c :: l, acc => if o = 6 then (if c = 49 then ([], 6) else unF 0 l acc) else if c = 48 then unF 0 l (acc ++ [c]) else unF (o + 1) l (acc ++ [c])
end Go.Proofs.YtbpjinefbnlenaaGreatDoor

/- Stuff and Unstuff on both sides; in plain Lean. -/
namespace Go.Proofs.YtbpjinefbnlenaaGreatDoor
open Go Go.RowKit
set_option linter.unusedVariables false

theorem drop_getD (s : Tx) (k : Nat) (h : k < s.length) : s.drop k = s.getD k 0 :: s.drop (k + 1) := by
  rw [List.drop_eq_getElem_cons h]; simp [List.getD_eq_getElem?_getD, h]
theorem strOf_one (c : UInt8) : strOf [((c.toNat : Nat) : Int)] = [c] := by simp [strOf]
theorem is48 (c : UInt8) : (((c.toNat : Nat) : Int) == 48) = decide (c = 48) := by
  by_cases h : c = 48
  · subst h; rfl
  · rw [decide_eq_false h]
    refine beq_eq_false_iff_ne.2 fun e => h ?_
    apply UInt8.toNat.inj
    show c.toNat = 48
    omega
theorem is49 (c : UInt8) : (((c.toNat : Nat) : Int) == 49) = decide (c = 49) := by
  by_cases h : c = 49
  · subst h; rfl
  · rw [decide_eq_false h]
    refine beq_eq_false_iff_ne.2 fun e => h ?_
    apply UInt8.toNat.inj
    show c.toNat = 49
    omega
def stV (row : Tx) : Tx × Int := if onlyB row [48, 49] = false then ([], 1) else (stF 0 row, 0)
def unV2 (row : Tx) : Tx × Int := if onlyB row [48, 49] = false then ([], 1) else unF 0 row []
theorem stuffP (n : Nat) (row : Tx) (hs : row.length ≤ 9000000) (hn : row.length + 100 < n) : loopF (F24_l31 n row) n (0, 0, true, []) = some (stF 0 row, 0) := by
  refine (loopF_eq (F24_l31 n row) (fun d => some (strOf d.2.2.2 ++ stF d.1.toNat (row.drop d.2.1.toNat), 0)) (fun d => ∃ o x : Nat, ∃ z : Bool, ∃ m : List Int, d = ((o : Int), (x : Int), z, m) ∧ o ≤ 5 ∧ x ≤ row.length ∧ m.length ≤ 2 * x) (fun d => row.length - d.2.1.toNat) ?_ n _ ⟨0, 0, true, [], rfl, by omega, by omega, by simp⟩ (by simp; omega)).trans ?_
  · rintro kk d ⟨o, x, z, m, rfl, ho, hx, hm⟩ ih
    simp only [F24_l31, F24_j35, F24_j36, F24_j40, Int.toNat_natCast]
    by_cases hxl : x < row.length
    · have ed := drop_getD row x hxl
      obtain ⟨c, hc⟩ : ∃ c, row.getD x 0 = c := ⟨_, rfl⟩
      rw [hc] at ed
      simp only [hc]
      have l1 : (m ++ [((c.toNat : Nat) : Int)]).length = m.length + 1 := by simp
      have a1 : ((x : Int) + 1) = ((x + 1 : Nat) : Int) := by omega
      rw [decide_eq_true (show (x : Int) < ((row.length : Nat) : Int) by omega), inb_true (by omega) (by omega), l1, decide_eq_true (show m.length + [((c.toNat : Nat) : Int)].length ≤ 140737488355328 by simp only [List.length_cons, List.length_nil]; omega),
        decide_eq_true (show m.length + 1 + ([48] : List Int).length ≤ 140737488355328 by simp only [List.length_cons, List.length_nil]; omega), w64 (n := (x : Int) + 1) (by omega) (by omega), w64 (n := (o : Int) + 1) (by omega) (by omega), is48, a1, ed]
      simp only [cond_true, stF]
      have k0 : ∀ z2 : Bool, kk (0, ((x + 1 : Nat) : Int), z2, m ++ [((c.toNat : Nat) : Int)]) = some (strOf m ++ (c :: stF 0 (row.drop (x + 1))), 0) := by
        intro z2
        rw [ih (0, ((x + 1 : Nat) : Int), z2, _) ⟨0, x + 1, z2, _, rfl, by omega, by omega, by simp; omega⟩ (by simp only [Int.toNat_natCast]; omega)]
        simp only [strOf_app, strOf_one, Int.toNat_natCast, List.append_assoc]; rfl
      have k6 : ∀ z2 : Bool, kk (0, ((x + 1 : Nat) : Int), z2, m ++ [((c.toNat : Nat) : Int)] ++ [48]) = some (strOf m ++ (c :: 48 :: stF 0 (row.drop (x + 1))), 0) := by
        intro z2
        rw [ih (0, ((x + 1 : Nat) : Int), z2, _) ⟨0, x + 1, z2, _, rfl, by omega, by omega, by simp; omega⟩ (by simp only [Int.toNat_natCast]; omega)]
        simp only [strOf_app, strOf_one, Int.toNat_natCast, List.append_assoc]; rfl
      have k1 : ∀ z2 : Bool, o ≠ 5 → kk (((o : Int) + 1), ((x + 1 : Nat) : Int), z2, m ++ [((c.toNat : Nat) : Int)]) = some (strOf m ++ (c :: stF (o + 1) (row.drop (x + 1))), 0) := by
        intro z2 h5
        rw [show (o : Int) + 1 = ((o + 1 : Nat) : Int) by omega, ih _ ⟨o + 1, x + 1, z2, _, rfl, by omega, by omega, by simp; omega⟩ (by simp only [Int.toNat_natCast]; omega)]
        simp only [strOf_app, strOf_one, Int.toNat_natCast, List.append_assoc]; rfl
      by_cases h48 : c = 48
      · rw [decide_eq_true h48, if_pos h48]
        simp only [cond_true, show ((0 : Int) == 6) = false from rfl, cond_false, k0]
        cases z <;> rfl
      · rw [decide_eq_false h48, if_neg h48]
        simp only [cond_false]
        by_cases h5 : o = 5
        · subst h5
          rw [if_pos rfl, show ((((5 : Nat) : Int) + 1) == 6) = true from rfl]
          simp only [cond_true, k6]
          cases z <;> rfl
        · rw [if_neg h5, show (((o : Int) + 1) == 6) = false from beq_eq_false_iff_ne.2 (by omega)]
          simp only [cond_false, k1 _ h5]
          cases z <;> rfl
    · rw [decide_eq_false (by omega), List.drop_of_length_le (by omega)]
      simp [stF]
  · simp [strOf]
theorem stuffPV (n : Nat) (hn : 140737488355338 < n) (row : Tx) (hs : row.length ≤ 9000000) : F24 n row = some (stV row) := by
  unfold F24 stV
  rw [isP n row _ (by omega) (by decide) (by decide)]
  simp only [Option.bind_some]
  cases ho : onlyB row [48, 49] with
  | false => rfl
  | true => simp only [Bool.not_true, cond_false]; exact stuffP n row hs (by omega)
/-! Unstuff -/
theorem unstuffP (n : Nat) (row : Tx) (hs : row.length ≤ 9000000) (hn : row.length + 100 < n) : loopF (F59_l14 n row) n (0, 0, true, []) = some (unF 0 row []) := by
  refine (loopF_eq (F59_l14 n row) (fun d => some (unF d.1.toNat (row.drop d.2.1.toNat) (strOf d.2.2.2))) (fun d => ∃ o x : Nat, ∃ z : Bool, ∃ m : List Int, d = ((o : Int), (x : Int), z, m) ∧ o ≤ 6 ∧ x ≤ row.length ∧ m.length ≤ x) (fun d => row.length - d.2.1.toNat) ?_ n _ ⟨0, 0, true, [], rfl, by omega, by omega, by simp⟩ (by simp; omega)).trans ?_
  · rintro kk d ⟨o, x, z, m, rfl, ho, hx, hm⟩ ih
    simp only [F59_l14, F59_j18, Int.toNat_natCast]
    have h6 : ((o : Int) == 6) = decide (o = 6) := by
      by_cases h : o = 6
      · subst h; rfl
      · rw [decide_eq_false h]; exact beq_eq_false_iff_ne.2 (by omega)
    rw [h6]
    by_cases hxl : x < row.length
    · have ed := drop_getD row x hxl
      obtain ⟨c, hc⟩ : ∃ c, row.getD x 0 = c := ⟨_, rfl⟩
      rw [hc] at ed
      simp only [hc]
      have a1 : ((x : Int) + 1) = ((x + 1 : Nat) : Int) := by omega
      rw [decide_eq_true (show (x : Int) < ((row.length : Nat) : Int) by omega), inb_true (by omega) (by omega), decide_eq_true (show m.length + [((c.toNat : Nat) : Int)].length ≤ 140737488355328 by simp only [List.length_cons, List.length_nil]; omega),
        w64 (n := (x : Int) + 1) (by omega) (by omega), w64 (n := (o : Int) + 1) (by omega) (by omega), is48, is49, a1, ed]
      simp only [cond_true, unF]
      by_cases h6 : o = 6
      · rw [decide_eq_true h6, if_pos h6]
        simp only [cond_true]
        by_cases h49 : c = 49
        · rw [decide_eq_true h49, if_pos h49]; rfl
        · rw [decide_eq_false h49, if_neg h49]
          simp only [cond_false]
          rw [ih (0, ((x + 1 : Nat) : Int), z, m) ⟨0, x + 1, z, m, rfl, by omega, by omega, by omega⟩ (by simp only [Int.toNat_natCast]; omega)]
          rfl
      · rw [decide_eq_false h6, if_neg h6]
        simp only [cond_false]
        have k0 : ∀ z2 : Bool, kk (0, ((x + 1 : Nat) : Int), z2, m ++ [((c.toNat : Nat) : Int)]) = some (unF 0 (row.drop (x + 1)) (strOf m ++ [c])) := by
          intro z2
          rw [ih (0, ((x + 1 : Nat) : Int), z2, _) ⟨0, x + 1, z2, _, rfl, by omega, by omega, by simp; omega⟩ (by simp only [Int.toNat_natCast]; omega)]
          simp only [strOf_app, strOf_one, Int.toNat_natCast]; rfl
        have k1 : ∀ z2 : Bool, kk (((o : Int) + 1), ((x + 1 : Nat) : Int), z2, m ++ [((c.toNat : Nat) : Int)]) = some (unF (o + 1) (row.drop (x + 1)) (strOf m ++ [c])) := by
          intro z2
          rw [show (o : Int) + 1 = ((o + 1 : Nat) : Int) by omega, ih _ ⟨o + 1, x + 1, z2, _, rfl, by omega, by omega, by simp; omega⟩ (by simp only [Int.toNat_natCast]; omega)]
          simp only [strOf_app, strOf_one, Int.toNat_natCast]
        rw [k0, k0, k1, k1]
        by_cases h48 : c = 48
        · rw [decide_eq_true h48, if_pos h48]; cases z <;> rfl
        · rw [decide_eq_false h48, if_neg h48]; cases z <;> rfl
    · rw [decide_eq_false (by omega), List.drop_of_length_le (by omega)]
      simp only [cond_false, unF]
      by_cases h6 : o = 6
      · rw [decide_eq_true h6, if_pos h6]; rfl
      · rw [decide_eq_false h6, if_neg h6]; rfl
  · simp [strOf]
theorem unstuffPV (n : Nat) (hn : 140737488355338 < n) (row : Tx) (hs : row.length ≤ 9000000) : F59 n row = some (unV2 row) := by
  unfold F59 unV2
  rw [isP n row _ (by omega) (by decide) (by decide)]
  simp only [Option.bind_some]
  cases ho : onlyB row [48, 49] with
  | false => rfl
  | true => simp only [Bool.not_true, cond_false]; exact unstuffP n row hs (by omega)
end Go.Proofs.YtbpjinefbnlenaaGreatDoor
