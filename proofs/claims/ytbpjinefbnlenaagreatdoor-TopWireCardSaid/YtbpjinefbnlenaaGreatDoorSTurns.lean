/- Levels of bits and bits of levels; in plain Lean. -/
import Derived.Test.YtbpjinefbnlenaaGreatDoorFtw
import Derived.Test.YtbpjinefbnlenaaGreatDoorAm26
import Derived.Test.YtbpjinefbnlenaaGreatDoorAm22
namespace Go.Proofs.YtbpjinefbnlenaaGreatDoor
open Go Go.RowKit
set_option linter.unusedVariables false

abbrev Tx := List UInt8
/-! a text of some signs alone -/
def onlyB (s c : Tx) : Bool := s.all fun b => c.contains b
theorem drop_self {p : UInt8 → Bool} : ∀ (l : Tx), (∀ x ∈ l.dropWhile p, p x = true) → ∀ x ∈ l, p x = true
  | [], _ => fun x hx => by cases hx
  | a :: l, h => by
    by_cases ha : p a = true
    · rw [List.dropWhile_cons_of_pos ha] at h
      intro x hx
      rcases List.mem_cons.1 hx with rfl | hx
      · exact ha
      · exact drop_self l h x hx
    · rw [List.dropWhile_cons_of_neg ha] at h
      exact h
theorem drop_all {p : UInt8 → Bool} : ∀ (l : Tx), (∀ x ∈ l, p x = true) → l.dropWhile p = []
  | [], _ => rfl
  | a :: l, h => by
    rw [List.dropWhile_cons_of_pos (h a (List.mem_cons_self ..))]
    exact drop_all l fun x hx => h x (List.mem_cons_of_mem _ hx)
theorem drop_nil {p : UInt8 → Bool} : ∀ (l : Tx), l.dropWhile p = [] → ∀ x ∈ l, p x = true
  | l, h => drop_self l (by rw [h]; intro x hx; cases hx)
theorem trim_only (s c : Tx) : (Lib.trimS s c == []) = onlyB s c := by
  unfold onlyB Lib.trimS Lib.trimLeftS Lib.trimRightS
  cases h : s.all fun b => c.contains b with
  | true =>
    rw [List.all_eq_true] at h
    rw [drop_all s.reverse (fun x hx => h x (List.mem_reverse.1 hx))]; rfl
  | false =>
    refine beq_eq_false_iff_ne.2 fun e => ?_
    have h1 := drop_nil _ e
    have h2 : ∀ x ∈ s.reverse, c.contains x = true := drop_self _ fun x hx => h1 x (List.mem_reverse.2 hx)
    have h3 : (s.all fun b => c.contains b) = true := List.all_eq_true.2 fun x hx => h2 x (List.mem_reverse.2 hx)
    rw [h] at h3; cases h3
theorem isP (n : Nat) (s c : Tx) (hs : s.length ≤ 140737488355328) (hc : c.length < 1000) (ha : (c.all fun b => decide (b.toNat < 128)) = true) : F47 n s c = some (onlyB s c) := by
  unfold F47 F28
  rw [decide_eq_true (show s.length ≤ 9223372036854775807 ∧ c.length < 4294967281 ∧ (c.all fun b => decide (b.toNat < 128)) = true from ⟨by omega, by omega, ha⟩)]
  simp only [cond_true, Option.bind_some, trim_only]
/-! rows that are filled -/
theorem set_row (f : Nat → Int) (m k : Nat) (v : Int) (hk : k < m) : ((List.range k).map f ++ List.replicate (m - k) 0).set k v = (List.range k).map f ++ [v] ++ List.replicate (m - (k + 1)) 0 := by
  rw [List.set_append_right _ _ (by simp)]
  simp only [List.length_map, List.length_range, Nat.sub_self]
  rw [show m - k = (m - (k + 1)) + 1 by omega, List.replicate_succ, List.set_cons_zero]
  simp
theorem set_row2 (f : Nat → Int) (m k : Nat) (u v : Int) : ((List.range k).map f ++ [u] ++ List.replicate (m - (k + 1)) 0).set k v = (List.range k).map f ++ [v] ++ List.replicate (m - (k + 1)) 0 := by
  rw [List.append_assoc, List.set_append_right _ _ (by simp)]
  simp
theorem row_succ (f : Nat → Int) (m k : Nat) : (List.range k).map f ++ [f k] ++ List.replicate (m - (k + 1)) 0 = (List.range (k + 1)).map f ++ List.replicate (m - (k + 1)) 0 := by
  rw [List.range_succ]; simp
theorem row_len (f : Nat → Int) (m k : Nat) (hk : k ≤ m) : ((List.range k).map f ++ List.replicate (m - k) (0 : Int)).length = m := by
  simp; omega
theorem row_len2 (f : Nat → Int) (m k : Nat) (u : Int) (hk : k < m) : ((List.range k).map f ++ [u] ++ List.replicate (m - (k + 1)) (0 : Int)).length = m := by
  simp; omega
/-! levels of bits -/
def zc (row : Tx) : Nat → Nat
  | 0 => 0
  | k + 1 => zc row k + if (row.getD k 0).toNat = 48 then 1 else 0
def lv (level : Int) (z : Nat) : Int := if z % 2 = 1 then 149 - level else level
theorem lv_succ (level : Int) (z : Nat) : lv level (z + 1) = 149 - lv level z := by
  unfold lv
  by_cases h : z % 2 = 1
  · rw [if_pos h, if_neg (by omega)]; omega
  · rw [if_neg h, if_pos (by omega)]
def rwTn (row : Tx) (level : Int) (j : Nat) : Int := lv level (zc row (j + 1))
theorem turnP (n : Nat) (row : Tx) (level : Int) (hl : level = 74 ∨ level = 75) (hs : row.length ≤ 140737488355328) (hn : 140737488355338 < n) :
    loopF (F26_l9 n row) n (level, 0, List.replicate ((row.length : Nat) : Int).toNat 0) = some (strOf ((List.range row.length).map (rwTn row level)), 0) := by
  refine (loopF_eq (F26_l9 n row) (fun _ => some (strOf ((List.range row.length).map (rwTn row level)), 0)) (fun d => ∃ k : Nat, k ≤ row.length ∧ d = (lv level (zc row k), (k : Int), (List.range k).map (rwTn row level) ++ List.replicate (row.length - k) 0)) (fun d => row.length - d.2.1.toNat) ?_ n _ ⟨0, by omega, by simp [lv, zc]⟩ (by simp; omega))
  rintro kk d ⟨k, hk, rfl⟩ ih
  simp only [F26_l9, F26_j10, F49, Int.toNat_natCast, List.length_replicate, row_len _ _ _ hk, Option.bind_some]
  by_cases hkl : k < row.length
  · have hlv : lv level (zc row k) = 74 ∨ lv level (zc row k) = 75 := by unfold lv; split <;> omega
    rw [decide_eq_true (show (k : Int) < ((row.length : Nat) : Int) by omega), inb_true (by omega) (by omega), w64 (n := (k : Int) + 1) (by omega) (by omega), set_row _ _ _ _ hkl, set_row _ _ _ _ hkl]
    simp only [cond_true]
    have fin : ∀ v : Int, v = rwTn row level k → kk (v, (k : Int) + 1, (List.range k).map (rwTn row level) ++ [v] ++ List.replicate (row.length - (k + 1)) 0) = some (strOf ((List.range row.length).map (rwTn row level)), 0) := by
      rintro v rfl
      refine ih _ ⟨k + 1, by omega, ?_⟩ (by simp only [Int.toNat_natCast]; omega)
      rw [row_succ]; rfl
    by_cases h48 : (row.getD k 0).toNat = 48
    · rw [show ((((row.getD k 0).toNat : Nat) : Int) == 48) = true from beq_iff_eq.2 (by omega), show IntKind.wrap .u8 (149 - lv level (zc row k)) = 149 - lv level (zc row k) by rw [u8w]; omega]
      exact fin _ (by unfold rwTn; simp only [zc]; rw [if_pos h48, lv_succ])
    · rw [show ((((row.getD k 0).toNat : Nat) : Int) == 48) = false from beq_eq_false_iff_ne.2 (by omega)]
      exact fin _ (by unfold rwTn; simp only [zc]; rw [if_neg h48]; rfl)
  · obtain rfl : k = row.length := by omega
    rw [decide_eq_false (by omega)]; simp
/-! bits of levels -/
def pvL (s : Tx) (level : Int) : Nat → Int
  | 0 => level
  | k + 1 => (((s.getD k 0).toNat : Nat) : Int)
def rowU (s : Tx) (level : Int) (j : Nat) : Int := if (((s.getD j 0).toNat : Nat) : Int) = pvL s level j then 49 else 48
theorem unP (n : Nat) (s : Tx) (level : Int) (hs : s.length ≤ 140737488355328) (hn : 140737488355338 < n) :
    loopF (F58_l9 n s) n (level, 0, List.replicate ((s.length : Nat) : Int).toNat 0) = some (strOf ((List.range s.length).map (rowU s level)), 0) := by
  refine (loopF_eq (F58_l9 n s) (fun _ => some (strOf ((List.range s.length).map (rowU s level)), 0)) (fun d => ∃ k : Nat, k ≤ s.length ∧ d = (pvL s level k, (k : Int), (List.range k).map (rowU s level) ++ List.replicate (s.length - k) 0)) (fun d => s.length - d.2.1.toNat) ?_ n _ ⟨0, by omega, by simp [pvL]⟩ (by simp; omega))
  rintro kk d ⟨k, hk, rfl⟩ ih
  simp only [F58_l9, F58_j10, Int.toNat_natCast, List.length_replicate, row_len _ _ _ hk]
  by_cases hkl : k < s.length
  · rw [decide_eq_true (show (k : Int) < ((s.length : Nat) : Int) by omega), inb_true (by omega) (by omega), w64 (n := (k : Int) + 1) (by omega) (by omega)]
    simp only [set_row _ _ _ _ hkl, set_row2, row_len2 _ _ _ _ hkl, cond_true]
    rw [inb_true (show (0 : Int) ≤ (k : Int) by omega) (by omega)]
    simp only [cond_true]
    have fin : ∀ v : Int, v = rowU s level k → kk ((((s.getD k 0).toNat : Nat) : Int), (k : Int) + 1, (List.range k).map (rowU s level) ++ [v] ++ List.replicate (s.length - (k + 1)) 0) = some (strOf ((List.range s.length).map (rowU s level)), 0) := by
      rintro v rfl
      refine ih _ ⟨k + 1, by omega, ?_⟩ (by simp only [Int.toNat_natCast]; omega)
      rw [row_succ]; rfl
    by_cases he : (((s.getD k 0).toNat : Nat) : Int) = pvL s level k
    · rw [show ((((s.getD k 0).toNat : Nat) : Int) != pvL s level k) = false from bne_eq_false_iff_eq.2 he]
      exact fin _ (by unfold rowU; rw [if_pos he])
    · rw [show ((((s.getD k 0).toNat : Nat) : Int) != pvL s level k) = true from bne_iff_ne.2 he]
      exact fin _ (by unfold rowU; rw [if_neg he])
  · obtain rfl : k = s.length := by omega
    rw [decide_eq_false (by omega)]; simp
theorem mk1 (s : Tx) (hs : s.length ≤ 140737488355328) : decide (0 ≤ ((s.length : Nat) : Int) ∧ (((s.length : Nat) : Int) ≤ ((s.length : Nat) : Int) ∧ ((s.length : Nat) : Int) * 1 ≤ 140737488355328)) = true :=
  decide_eq_true ⟨by omega, by omega, by omega⟩
def turnV (row : Tx) (level : Int) : Tx × Int := if onlyB row [48, 49] = false ∨ ¬ (level = 74 ∨ level = 75) then ([], 1) else (strOf ((List.range row.length).map (rwTn row level)), 0)
def unV (s : Tx) (level : Int) : Tx × Int := if onlyB s [74, 75] = false ∨ ¬ (level = 74 ∨ level = 75) then ([], 1) else (strOf ((List.range s.length).map (rowU s level)), 0)
theorem turnPV (n : Nat) (hn : 140737488355338 < n) (row : Tx) (level : Int) (hs : row.length ≤ 140737488355328) : F26 n row level = some (turnV row level) := by
  unfold F26 turnV
  rw [isP n row _ hs (by decide) (by decide)]
  simp only [Option.bind_some]
  cases ho : onlyB row [48, 49] with
  | false => rfl
  | true =>
    by_cases h74 : level = 74
    · subst h74
      simp only [F26_j6, mk1 row hs, turnP n row 74 (Or.inl rfl) hs hn]; rfl
    · rw [show (level != 74) = true from bne_iff_ne.2 h74]
      by_cases h75 : level = 75
      · subst h75
        simp only [F26_j6, mk1 row hs, turnP n row 75 (Or.inr rfl) hs hn]; rfl
      · rw [show (level != 75) = true from bne_iff_ne.2 h75, if_pos (Or.inr (by omega))]; rfl
theorem unPV (n : Nat) (hn : 140737488355338 < n) (s : Tx) (level : Int) (hs : s.length ≤ 140737488355328) : F58 n s level = some (unV s level) := by
  unfold F58 unV
  rw [isP n s _ hs (by decide) (by decide)]
  simp only [Option.bind_some]
  cases ho : onlyB s [74, 75] with
  | false => rfl
  | true =>
    by_cases h74 : level = 74
    · subst h74
      simp only [F58_j6, mk1 s hs, unP n s 74 hs hn]; rfl
    · rw [show (level != 74) = true from bne_iff_ne.2 h74]
      by_cases h75 : level = 75
      · subst h75
        simp only [F58_j6, mk1 s hs, unP n s 75 hs hn]; rfl
      · rw [show (level != 75) = true from bne_iff_ne.2 h75, if_pos (Or.inr (by omega))]; rfl
end Go.Proofs.YtbpjinefbnlenaaGreatDoor
