/- Commands made, in plain Lean. -/
import Derived.Test.YtbodjbpgdkkohaaFst
import Derived.Test.YtbodjbpgdkkohaaAm26
namespace Go.Proofs.Ytbodjbpgdkkohaa.Mk
open Go Go.RowKit
set_option linter.unusedVariables false

abbrev Tx := List UInt8
theorem betC (n : Nat) (v lo hi : Int) : F57 n v lo hi = some (decide (lo ≤ v ∧ v ≤ hi)) := by
  unfold F57
  by_cases h : lo ≤ v
  · rw [decide_eq_true h]
    simp only [cond_true, Option.some.injEq]
    rw [Bool.eq_iff_iff, decide_eq_true_iff, decide_eq_true_iff]
    exact ⟨fun e => ⟨h, e⟩, fun e => e.2⟩
  · rw [decide_eq_false h, decide_eq_false (show ¬ (lo ≤ v ∧ v ≤ hi) from fun hh => h hh.1)]; rfl
def z16 : Tx := List.replicate 16 0
theorem repZ (n : Nat) : F39 n [0] 16 = some z16 := rfl
theorem contC (m : Nat) (a b c v : Int) : F52 (m + 4) [a, b, c] v = some (v == a || (v == b || v == c)) := by
  have e : F84 (m + 4) [a, b, c] v = bif v == a then some 0 else (bif v == b then some 1 else (bif v == c then some 2 else some (-1))) := rfl
  unfold F52
  rw [e]
  cases v == a <;> cases v == b <;> cases v == c <;> rfl
theorem contC' (m : Nat) (a b c v : Int) : F52 (m + 200) [a, b, c] v = some (v == a || (v == b || v == c)) := contC (m + 196) a b c v
theorem two32 {m : Nat} : F46 (m + 200) 32 = some 4294967296 := by kernel_rfl
/-- bytes, the high one first -/
def hb4 (v : Int) : Tx := strOf [v / 16777216 % 256, v / 65536 % 256, v / 256 % 256, v % 256]
theorem longP (n : Nat) (v : Int) : F55 n v = some (hb4 v) := by
  unfold F55 hb4
  have s8 := shr_div .i64 v 8 (by decide)
  have s16 := shr_div .i64 v 16 (by decide)
  have s24 := shr_div .i64 v 24 (by decide)
  rw [show ((8 : Nat) : Int) = 8 from rfl, show (2 : Int) ^ 8 = 256 by decide] at s8
  rw [show ((16 : Nat) : Int) = 16 from rfl, show (2 : Int) ^ 16 = 65536 by decide] at s16
  rw [show ((24 : Nat) : Int) = 24 from rfl, show (2 : Int) ^ 24 = 16777216 by decide] at s24
  rw [s8, s16, s24, u8w, u8w, u8w, u8w]
theorem high4' {m : Nat} (x : Int) : F27 (m + 200) x 4 = some (strOf [IntKind.wrap .u8 ((IntKind.wrap .i64 ((IntKind.wrap .i64 ((IntKind.wrap .i64 (x.tdiv 256)).tdiv 256)).tdiv 256)).tmod 256)] ++ (strOf [IntKind.wrap .u8 ((IntKind.wrap .i64 ((IntKind.wrap .i64 (x.tdiv 256)).tdiv 256)).tmod 256)] ++
    (strOf [IntKind.wrap .u8 ((IntKind.wrap .i64 (x.tdiv 256)).tmod 256)] ++ (strOf [IntKind.wrap .u8 (x.tmod 256)] ++ [])))) := by kernel_rfl
theorem high2' {m : Nat} (x : Int) : F27 (m + 200) x 2 = some (strOf [IntKind.wrap .u8 ((IntKind.wrap .i64 (x.tdiv 256)).tmod 256)] ++ (strOf [IntKind.wrap .u8 (x.tmod 256)] ++ [])) := by kernel_rfl
theorem high1' {m : Nat} (x : Int) : F27 (m + 200) x 1 = some (strOf [IntKind.wrap .u8 (x.tmod 256)] ++ []) := by kernel_rfl
theorem high4 {m : Nat} (x : Int) (h0 : 0 ≤ x) (h1 : x ≤ 4294967295) : F27 (m + 200) x 4 = some (hb4 x) := by
  rw [high4', Int.tmod_eq_emod_of_nonneg h0, Int.tdiv_eq_ediv_of_nonneg h0, w64 (n := x / 256) (by omega) (by omega), Int.tmod_eq_emod_of_nonneg (show 0 ≤ x / 256 by omega), Int.tdiv_eq_ediv_of_nonneg (show 0 ≤ x / 256 by omega), w64 (n := x / 256 / 256) (by omega) (by omega),
    Int.tmod_eq_emod_of_nonneg (show 0 ≤ x / 256 / 256 by omega), Int.tdiv_eq_ediv_of_nonneg (show 0 ≤ x / 256 / 256 by omega), w64 (n := x / 256 / 256 / 256) (by omega) (by omega), Int.tmod_eq_emod_of_nonneg (show 0 ≤ x / 256 / 256 / 256 by omega), u8w, u8w, u8w, u8w]
  have c0 : x % 256 % 256 = x % 256 := by omega
  have c1 : x / 256 % 256 % 256 = x / 256 % 256 := by omega
  have c2 : x / 256 / 256 % 256 % 256 = x / 65536 % 256 := by omega
  have c3 : x / 256 / 256 / 256 % 256 % 256 = x / 16777216 % 256 := by omega
  rw [c0, c1, c2, c3]
  rfl
theorem high2 {m : Nat} (x : Int) (h0 : 0 ≤ x) (h1 : x ≤ 65535) : F27 (m + 200) x 2 = some (strOf [x / 256 % 256, x % 256]) := by
  rw [high2', Int.tmod_eq_emod_of_nonneg h0, Int.tdiv_eq_ediv_of_nonneg h0, w64 (n := x / 256) (by omega) (by omega), Int.tmod_eq_emod_of_nonneg (show 0 ≤ x / 256 by omega), u8w, u8w]
  have c0 : x % 256 % 256 = x % 256 := by omega
  have c1 : x / 256 % 256 % 256 = x / 256 % 256 := by omega
  rw [c0, c1]
  rfl
theorem high1 {m : Nat} (x : Int) (h0 : 0 ≤ x) : F27 (m + 200) x 1 = some (strOf [x % 256]) := by
  rw [high1', Int.tmod_eq_emod_of_nonneg h0, u8w]
  have c0 : x % 256 % 256 = x % 256 := by omega
  rw [c0]
  rfl
def cmdT (op lba count : Int) : Tx := (strOf [op % 256, 0] ++ hb4 lba) ++ strOf [0, count / 256 % 256, count % 256, 0]
def cgood (op lba count : Int) : Prop := (op = 40 ∨ op = 42 ∨ op = 53) ∧ (0 ≤ lba ∧ lba ≤ 4294967295) ∧ (0 ≤ count ∧ count ≤ 65535)
open Classical in
noncomputable def cmdV (op lba count : Int) : Tx × Int := if cgood op lba count then (cmdT op lba count, 0) else ([], 1)
theorem makeJ (n : Nat) (op lba count : Int) : F83_j2 n op lba count false = some (cmdT op lba count, 0) := by
  unfold F83_j2
  have s8 := shr_div .i64 count 8 (by decide)
  rw [show ((8 : Nat) : Int) = 8 from rfl, show (2 : Int) ^ 8 = 256 by decide] at s8
  rw [longP, s8, u8w, u8w, u8w]
  rfl
theorem madeJ {m : Nat} (op lba count : Int) (h : cgood op lba count) : F51_j2 (m + 200) op lba count false = some (cmdT op lba count, 0) := by
  obtain ⟨h1, h2, h3⟩ := h
  unfold F51_j2
  rw [high1 op (by omega), high4 lba h2.1 h2.2, high2 count h3.1 h3.2]
  rfl
theorem makeP (n : Nat) (op lba count : Int) : F83 n op lba count = some (cmdV op lba count) := by
  have jt : F83_j2 n op lba count true = some ([], 1) := rfl
  have no : ¬ cgood op lba count → some (([] : Tx), (1 : Int)) = some (cmdV op lba count) := fun h => by unfold cmdV; rw [if_neg h]
  have yes : cgood op lba count → F83_j2 n op lba count false = some (cmdV op lba count) := fun h => by unfold cmdV; rw [if_pos h, makeJ]
  have rest : (op = 40 ∨ op = 42 ∨ op = 53) → (bif (decide (lba < (0 : Int))) then (F83_j2 n op lba count true) else (bif (decide (lba ≥ (4294967296 : Int))) then (F83_j2 n op lba count true) else (bif (decide (count < (0 : Int))) then (F83_j2 n op lba count true) else (F83_j2 n op lba count (decide (count > (65535 : Int))))))) = some (cmdV op lba count) := by
    intro ho
    rw [jt]
    by_cases q1 : lba < 0
    · rw [decide_eq_true q1]; exact no (fun h => by unfold cgood at h; omega)
    rw [decide_eq_false q1]
    by_cases q2 : lba ≥ 4294967296
    · rw [decide_eq_true q2]; exact no (fun h => by unfold cgood at h; omega)
    rw [decide_eq_false q2]
    by_cases q3 : count < 0
    · rw [decide_eq_true q3]; exact no (fun h => by unfold cgood at h; omega)
    rw [decide_eq_false q3]
    by_cases q4 : count > 65535
    · rw [decide_eq_true q4, jt]; exact no (fun h => by unfold cgood at h; omega)
    rw [decide_eq_false q4]
    exact yes ⟨ho, by omega, by omega⟩
  unfold F83
  by_cases o1 : op = 40
  · rw [show (op != (40 : Int)) = false by simp [o1]]
    exact rest (.inl o1)
  rw [show (op != (40 : Int)) = true by simp [o1]]
  by_cases o2 : op = 42
  · rw [show (op != (42 : Int)) = false by simp [o2]]
    exact rest (.inr (.inl o2))
  rw [show (op != (42 : Int)) = true by simp [o2]]
  by_cases o3 : op = 53
  · rw [show (op != (53 : Int)) = false by simp [o3]]
    exact rest (.inr (.inr o3))
  rw [show (op != (53 : Int)) = true by simp [o3]]
  exact no (fun h => by unfold cgood at h; omega)
theorem madeP (m : Nat) (op lba count : Int) : F51 (m + 200) op lba count = some (cmdV op lba count) := by
  have jt : F51_j2 (m + 200) op lba count true = some ([], 1) := rfl
  have no : ¬ cgood op lba count → some (([] : Tx), (1 : Int)) = some (cmdV op lba count) := fun h => by unfold cmdV; rw [if_neg h]
  unfold F51
  rw [contC' m 40 42 53 op, two32]
  simp only [Option.bind_some, betC, jt]
  rw [w64 (n := 4294967296 - 1) (by omega) (by omega)]
  by_cases o : op = 40 ∨ op = 42 ∨ op = 53
  · rw [show (op == 40 || (op == 42 || op == 53)) = true by simpa using o]
    by_cases q1 : 0 ≤ lba ∧ lba ≤ 4294967296 - 1
    · rw [decide_eq_true q1]
      by_cases q2 : 0 ≤ count ∧ count ≤ 65535
      · rw [decide_eq_true q2]
        have g : cgood op lba count := ⟨o, by omega, q2⟩
        show F51_j2 (m + 200) op lba count false = _
        rw [madeJ op lba count g]
        unfold cmdV; rw [if_pos g]
      · rw [decide_eq_false q2]
        show F51_j2 (m + 200) op lba count true = _
        rw [jt]; exact no (fun h => by unfold cgood at h; omega)
    · rw [decide_eq_false q1]; exact no (fun h => by unfold cgood at h; omega)
  · rw [show (op == 40 || (op == 42 || op == 53)) = false by rw [Bool.eq_false_iff]; intro h; exact o (by simpa using h)]
    exact no (fun h => by unfold cgood at h; omega)
end Go.Proofs.Ytbodjbpgdkkohaa.Mk
