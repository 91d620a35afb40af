/- Who sends how much; how a transfer ended; in plain Lean. -/
import Derived.Test.YtbodjbpgdkkohaaSWraps2
import Derived.Test.YtbodjbpgdkkohaaSScsi4
namespace Go.Proofs.Ytbodjbpgdkkohaa
open Go Go.RowKit
set_option linter.unusedVariables false

def mvB (d l : Int) : Bool := decide ((d = 0 ∧ l = 0) ∨ ((d = 1 ∨ d = 2) ∧ 1 ≤ l ∧ l ≤ 4294967295))
theorem transP (n : Nat) (d l : Int) : F63 n d l = some (mvB d l) := by
  unfold F63 mvB
  rw [is32]
  by_cases h0 : d = 0
  · subst h0
    simp
    exact Bool.eq_iff_iff.2 (by simp)
  rw [show (d == 0) = false from beq_eq_false_iff_ne.2 h0]
  by_cases h1 : d = 1
  · subst h1
    by_cases hl : 1 ≤ l
    · simp [hl]; omega
    · simp [hl]
  rw [show (d == 1) = false from beq_eq_false_iff_ne.2 h1]
  by_cases h2 : d = 2
  · subst h2
    by_cases hl : 1 ≤ l
    · simp [hl]; omega
    · simp [hl]
  rw [show (d == 2) = false from beq_eq_false_iff_ne.2 h2]
  simp [h0, h1, h2]
theorem moveR (n : Nat) (hn : 100 < n) (d l : Int) : F67 n d l = some (mvB d l) := by
  unfold F67 mvB
  have h32 : F46 n 32 = some 4294967296 := two' n hn 32 (by omega)
  rw [betC, h32]
  simp only [Option.bind_some, betC]
  rw [w64 (n := (4294967296 : Int) - 1) (by omega) (by omega)]
  by_cases h0 : d = 0 ∧ l = 0
  · obtain ⟨rfl, rfl⟩ := h0; rfl
  · have hb : Sh.beq (.st (.pair (.int .i64) (.int .i64))) (d, l) (0, 0) = false := by
      show (decide (d = 0) && decide (l = 0)) = false
      by_cases hd : d = 0
      · rw [decide_eq_true hd, decide_eq_false (fun e => h0 ⟨hd, e⟩)]; rfl
      · rw [decide_eq_false hd]; rfl
    rw [hb]
    by_cases hd : 1 ≤ d ∧ d ≤ 2
    · rw [decide_eq_true hd]
      simp only [cond_true, cond_false, Option.some.injEq, decide_eq_decide]
      omega
    · rw [decide_eq_false hd]
      simp only [cond_false, Option.some.injEq]
      rw [decide_eq_false (by omega)]
def mn (hl dl : Int) : Int := if dl < hl then dl else hl
def cV (c hl dl : Int) : Int × Int × Int × Int × Int := if c ∈ [(2 : Int), 3, 7, 8, 10, 13] then (c, 0, hl, 2, 0) else (c, mn hl dl, hl - mn hl dl, 0, 0)
def jC (hd dd hl dl : Int) : Int := if hd = 0 then 1 + dd else if dd = 0 then 4 + 5 * (hd - 1) else if hd = 1 ∧ dd = 2 then 8 else if hd = 2 ∧ dd = 1 then 10 else 5 + 6 * (hd - 1) + (if hl = dl then 1 else if hl < dl then 2 else 0)
def judV (hd hl dd dl : Int) : Int × Int × Int × Int × Int := if mvB hd hl = false ∨ mvB dd dl = false then (0, 0, 0, 0, 1) else cV (jC hd dd hl dl) hl dl
theorem wmn {hl dl : Int} (hh : 0 ≤ hl ∧ hl ≤ 4294967295) (hd : 0 ≤ dl ∧ dl ≤ 4294967295) : IntKind.wrap .i64 (hl - mn hl dl) = hl - mn hl dl := by
  unfold mn; split <;> rw [w64 (by omega) (by omega)]
theorem w0 {hl : Int} (hh : 0 ≤ hl ∧ hl ≤ 4294967295) : IntKind.wrap .i64 (hl - 0) = hl := by
  rw [w64 (by omega) (by omega)]; omega
theorem j17 (n : Nat) (hl dl : Int) (hh : 0 ≤ hl ∧ hl ≤ 4294967295) (hd : 0 ≤ dl ∧ dl ≤ 4294967295) (c : Int) (hc : 1 ≤ c ∧ c ≤ 13) : F30_j17 n hl dl c = some (cV c hl dl) := by
  have : c = 1 ∨ c = 2 ∨ c = 3 ∨ c = 4 ∨ c = 5 ∨ c = 6 ∨ c = 7 ∨ c = 8 ∨ c = 9 ∨ c = 10 ∨ c = 11 ∨ c = 12 ∨ c = 13 := by omega
  rcases this with rfl | rfl | rfl | rfl | rfl | rfl | rfl | rfl | rfl | rfl | rfl | rfl | rfl
  · exact (show F30_j17 n hl dl 1 = some (1, mn hl dl, IntKind.wrap .i64 (hl - mn hl dl), 0, 0) from rfl).trans (by rw [wmn hh hd]; rfl)
  · exact (show F30_j17 n hl dl 2 = some (2, 0, IntKind.wrap .i64 (hl - 0), 2, 0) from rfl).trans (by rw [w0 hh]; rfl)
  · exact (show F30_j17 n hl dl 3 = some (3, 0, IntKind.wrap .i64 (hl - 0), 2, 0) from rfl).trans (by rw [w0 hh]; rfl)
  · exact (show F30_j17 n hl dl 4 = some (4, mn hl dl, IntKind.wrap .i64 (hl - mn hl dl), 0, 0) from rfl).trans (by rw [wmn hh hd]; rfl)
  · exact (show F30_j17 n hl dl 5 = some (5, mn hl dl, IntKind.wrap .i64 (hl - mn hl dl), 0, 0) from rfl).trans (by rw [wmn hh hd]; rfl)
  · exact (show F30_j17 n hl dl 6 = some (6, mn hl dl, IntKind.wrap .i64 (hl - mn hl dl), 0, 0) from rfl).trans (by rw [wmn hh hd]; rfl)
  · exact (show F30_j17 n hl dl 7 = some (7, 0, IntKind.wrap .i64 (hl - 0), 2, 0) from rfl).trans (by rw [w0 hh]; rfl)
  · exact (show F30_j17 n hl dl 8 = some (8, 0, IntKind.wrap .i64 (hl - 0), 2, 0) from rfl).trans (by rw [w0 hh]; rfl)
  · exact (show F30_j17 n hl dl 9 = some (9, mn hl dl, IntKind.wrap .i64 (hl - mn hl dl), 0, 0) from rfl).trans (by rw [wmn hh hd]; rfl)
  · exact (show F30_j17 n hl dl 10 = some (10, 0, IntKind.wrap .i64 (hl - 0), 2, 0) from rfl).trans (by rw [w0 hh]; rfl)
  · exact (show F30_j17 n hl dl 11 = some (11, mn hl dl, IntKind.wrap .i64 (hl - mn hl dl), 0, 0) from rfl).trans (by rw [wmn hh hd]; rfl)
  · exact (show F30_j17 n hl dl 12 = some (12, mn hl dl, IntKind.wrap .i64 (hl - mn hl dl), 0, 0) from rfl).trans (by rw [wmn hh hd]; rfl)
  · exact (show F30_j17 n hl dl 13 = some (13, 0, IntKind.wrap .i64 (hl - 0), 2, 0) from rfl).trans (by rw [w0 hh]; rfl)
theorem mv_cases {d l : Int} (h : mvB d l = true) : (d = 0 ∧ l = 0) ∨ ((d = 1 ∨ d = 2) ∧ 1 ≤ l ∧ l ≤ 4294967295) := of_decide_eq_true h
theorem judP (n : Nat) (hd hl dd dl : Int) : F30 n hd hl dd dl = some (judV hd hl dd dl) := by
  unfold F30 judV
  rw [transP, transP]
  simp only [Option.bind_some]
  cases h1 : mvB hd hl with
  | false => rfl
  | true =>
    cases h2 : mvB dd dl with
    | false => rfl
    | true =>
      have hh : 0 ≤ hl ∧ hl ≤ 4294967295 := by rcases mv_cases h1 with h | h <;> omega
      have hdd : 0 ≤ dl ∧ dl ≤ 4294967295 := by rcases mv_cases h2 with h | h <;> omega
      rw [if_neg (show ¬ (true = false ∨ true = false) by simp)]
      have J := fun c hc => j17 n hl dl hh hdd c hc
      have hhd : hd = 0 ∨ hd = 1 ∨ hd = 2 := by rcases mv_cases h1 with h | h <;> omega
      have hde : dd = 0 ∨ dd = 1 ∨ dd = 2 := by rcases mv_cases h2 with h | h <;> omega
      rcases hhd with rfl | rfl | rfl <;> rcases hde with rfl | rfl | rfl
      · exact J 1 (by omega)
      · exact J 2 (by omega)
      · exact J 3 (by omega)
      · exact J 4 (by omega)
      · by_cases he : hl = dl
        · subst he
          refine Eq.trans ?_ ((J 6 (by omega)).trans (by unfold jC; simp))
          simp [F30_j21, F30_j22, F30_j23, F30_j24, IntKind.wrap, IntKind.bits, IntKind.signed]
        · by_cases hlt : hl < dl
          · refine Eq.trans ?_ ((J 7 (by omega)).trans (by unfold jC; simp [he, hlt]))
            simp [F30_j21, F30_j22, F30_j23, F30_j24, he, show (hl == dl) = false from beq_eq_false_iff_ne.2 he, hlt, IntKind.wrap, IntKind.bits, IntKind.signed]
          · refine Eq.trans ?_ ((J 5 (by omega)).trans (by unfold jC; simp [he, hlt]))
            simp [F30_j21, F30_j22, F30_j23, F30_j24, he, show (hl == dl) = false from beq_eq_false_iff_ne.2 he, hlt, IntKind.wrap, IntKind.bits, IntKind.signed]
      · exact J 8 (by omega)
      · exact J 9 (by omega)
      · exact J 10 (by omega)
      · by_cases he : hl = dl
        · subst he
          refine Eq.trans ?_ ((J 12 (by omega)).trans (by unfold jC; simp))
          simp [F30_j21, F30_j22, F30_j23, F30_j24, IntKind.wrap, IntKind.bits, IntKind.signed]
        · by_cases hlt : hl < dl
          · refine Eq.trans ?_ ((J 13 (by omega)).trans (by unfold jC; simp [he, hlt]))
            simp [F30_j21, F30_j22, F30_j23, F30_j24, he, show (hl == dl) = false from beq_eq_false_iff_ne.2 he, hlt, IntKind.wrap, IntKind.bits, IntKind.signed]
          · refine Eq.trans ?_ ((J 11 (by omega)).trans (by unfold jC; simp [he, hlt]))
            simp [F30_j21, F30_j22, F30_j23, F30_j24, he, show (hl == dl) = false from beq_eq_false_iff_ne.2 he, hlt, IntKind.wrap, IntKind.bits, IntKind.signed]
theorem judR (n : Nat) (hn : 100 < n) (hd hl dd dl : Int) : F34 n hd hl dd dl = some (judV hd hl dd dl) := by
  unfold F34 judV
  rw [moveR n hn, moveR n hn]
  simp only [Option.bind_some]
  cases h1 : mvB hd hl with
  | false => rfl
  | true =>
    cases h2 : mvB dd dl with
    | false => rfl
    | true =>
      have hh : 0 ≤ hl ∧ hl ≤ 4294967295 := by rcases mv_cases h1 with h | h <;> omega
      have hdd : 0 ≤ dl ∧ dl ≤ 4294967295 := by rcases mv_cases h2 with h | h <;> omega
      rw [if_neg (show ¬ (true = false ∨ true = false) by simp)]
      simp only [Bool.not_true, cond_false, F34_j3]
      have hhd : hd = 0 ∨ hd = 1 ∨ hd = 2 := by rcases mv_cases h1 with h | h <;> omega
      have hde : dd = 0 ∨ dd = 1 ∨ dd = 2 := by rcases mv_cases h2 with h | h <;> omega
      have m1 := mv_cases h1
      have m2 := mv_cases h2
      rcases hhd with rfl | rfl | rfl <;> rcases hde with rfl | rfl | rfl
      · have ea : hl = 0 := by omega
        have eb : dl = 0 := by omega
        rw [decide_eq_false (show ¬ hl > dl by omega), decide_eq_false (show ¬ hl < dl by omega)]
        refine Eq.trans ((show F34_j4 n 0 hl 0 dl 1 = some (1, mn hl dl, IntKind.wrap .i64 (hl - mn hl dl), 0, 0) by kernel_rfl).trans (by rw [wmn hh hdd])) ?_
        rw [show jC 0 0 hl dl = 1 by unfold jC; simp]; rfl
      · have ea : hl = 0 := by omega
        rw [decide_eq_false (show ¬ hl > dl by omega), decide_eq_true (show hl < dl by omega)]
        refine Eq.trans (show F34_j4 n 0 hl 1 dl 2 = some (2, 0, hl, 2, 0) by kernel_rfl) ?_
        rw [show jC 0 1 hl dl = 2 by unfold jC; simp]; rfl
      · have ea : hl = 0 := by omega
        rw [decide_eq_false (show ¬ hl > dl by omega), decide_eq_true (show hl < dl by omega)]
        refine Eq.trans (show F34_j4 n 0 hl 2 dl 2 = some (3, 0, hl, 2, 0) by kernel_rfl) ?_
        rw [show jC 0 2 hl dl = 3 by unfold jC; simp]; rfl
      · have eb : dl = 0 := by omega
        rw [decide_eq_true (show hl > dl by omega), decide_eq_false (show ¬ hl < dl by omega)]
        refine Eq.trans ((show F34_j4 n 1 hl 0 dl 0 = some (4, mn hl dl, IntKind.wrap .i64 (hl - mn hl dl), 0, 0) by kernel_rfl).trans (by rw [wmn hh hdd])) ?_
        rw [show jC 1 0 hl dl = 4 by unfold jC; simp]; rfl
      · rcases Int.lt_trichotomy hl dl with hlt | he | hgt
        · skip
          rw [decide_eq_false (show ¬ hl > dl by omega), decide_eq_true (show hl < dl by omega)]
          refine Eq.trans (show F34_j4 n 1 hl 1 dl 2 = some (7, 0, hl, 2, 0) by kernel_rfl) ?_
          rw [show jC 1 1 hl dl = 7 by unfold jC; simp; omega]; rfl
        · skip
          rw [decide_eq_false (show ¬ hl > dl by omega), decide_eq_false (show ¬ hl < dl by omega)]
          refine Eq.trans ((show F34_j4 n 1 hl 1 dl 1 = some (6, mn hl dl, IntKind.wrap .i64 (hl - mn hl dl), 0, 0) by kernel_rfl).trans (by rw [wmn hh hdd])) ?_
          rw [show jC 1 1 hl dl = 6 by unfold jC; simp; omega]; rfl
        · skip
          rw [decide_eq_true (show hl > dl by omega), decide_eq_false (show ¬ hl < dl by omega)]
          refine Eq.trans ((show F34_j4 n 1 hl 1 dl 0 = some (5, mn hl dl, IntKind.wrap .i64 (hl - mn hl dl), 0, 0) by kernel_rfl).trans (by rw [wmn hh hdd])) ?_
          rw [show jC 1 1 hl dl = 5 by unfold jC; simp; omega]; rfl
      · rcases Int.lt_trichotomy hl dl with hlt | he | hgt
        · skip
          rw [decide_eq_false (show ¬ hl > dl by omega), decide_eq_true (show hl < dl by omega)]
          refine Eq.trans (show F34_j4 n 1 hl 2 dl 2 = some (8, 0, hl, 2, 0) by kernel_rfl) ?_
          rw [show jC 1 2 hl dl = 8 by unfold jC; simp]; rfl
        · skip
          rw [decide_eq_false (show ¬ hl > dl by omega), decide_eq_false (show ¬ hl < dl by omega)]
          refine Eq.trans (show F34_j4 n 1 hl 2 dl 1 = some (8, 0, hl, 2, 0) by kernel_rfl) ?_
          rw [show jC 1 2 hl dl = 8 by unfold jC; simp]; rfl
        · skip
          rw [decide_eq_true (show hl > dl by omega), decide_eq_false (show ¬ hl < dl by omega)]
          refine Eq.trans (show F34_j4 n 1 hl 2 dl 0 = some (8, 0, hl, 2, 0) by kernel_rfl) ?_
          rw [show jC 1 2 hl dl = 8 by unfold jC; simp]; rfl
      · have eb : dl = 0 := by omega
        rw [decide_eq_true (show hl > dl by omega), decide_eq_false (show ¬ hl < dl by omega)]
        refine Eq.trans ((show F34_j4 n 2 hl 0 dl 0 = some (9, mn hl dl, IntKind.wrap .i64 (hl - mn hl dl), 0, 0) by kernel_rfl).trans (by rw [wmn hh hdd])) ?_
        rw [show jC 2 0 hl dl = 9 by unfold jC; simp]; rfl
      · rcases Int.lt_trichotomy hl dl with hlt | he | hgt
        · skip
          rw [decide_eq_false (show ¬ hl > dl by omega), decide_eq_true (show hl < dl by omega)]
          refine Eq.trans (show F34_j4 n 2 hl 1 dl 2 = some (10, 0, hl, 2, 0) by kernel_rfl) ?_
          rw [show jC 2 1 hl dl = 10 by unfold jC; simp]; rfl
        · skip
          rw [decide_eq_false (show ¬ hl > dl by omega), decide_eq_false (show ¬ hl < dl by omega)]
          refine Eq.trans (show F34_j4 n 2 hl 1 dl 1 = some (10, 0, hl, 2, 0) by kernel_rfl) ?_
          rw [show jC 2 1 hl dl = 10 by unfold jC; simp]; rfl
        · skip
          rw [decide_eq_true (show hl > dl by omega), decide_eq_false (show ¬ hl < dl by omega)]
          refine Eq.trans (show F34_j4 n 2 hl 1 dl 0 = some (10, 0, hl, 2, 0) by kernel_rfl) ?_
          rw [show jC 2 1 hl dl = 10 by unfold jC; simp]; rfl
      · rcases Int.lt_trichotomy hl dl with hlt | he | hgt
        · skip
          rw [decide_eq_false (show ¬ hl > dl by omega), decide_eq_true (show hl < dl by omega)]
          refine Eq.trans (show F34_j4 n 2 hl 2 dl 2 = some (13, 0, hl, 2, 0) by kernel_rfl) ?_
          rw [show jC 2 2 hl dl = 13 by unfold jC; simp; omega]; rfl
        · skip
          rw [decide_eq_false (show ¬ hl > dl by omega), decide_eq_false (show ¬ hl < dl by omega)]
          refine Eq.trans ((show F34_j4 n 2 hl 2 dl 1 = some (12, mn hl dl, IntKind.wrap .i64 (hl - mn hl dl), 0, 0) by kernel_rfl).trans (by rw [wmn hh hdd])) ?_
          rw [show jC 2 2 hl dl = 12 by unfold jC; simp; omega]; rfl
        · skip
          rw [decide_eq_true (show hl > dl by omega), decide_eq_false (show ¬ hl < dl by omega)]
          refine Eq.trans ((show F34_j4 n 2 hl 2 dl 0 = some (11, mn hl dl, IntKind.wrap .i64 (hl - mn hl dl), 0, 0) by kernel_rfl).trans (by rw [wmn hh hdd])) ?_
          rw [show jC 2 2 hl dl = 11 by unfold jC; simp; omega]; rfl
/-! how a transfer ended -/
def stV (t r c : Int) : Tx × Int := if (0 ≤ t ∧ t ≤ 4294967295) ∧ (0 ≤ r ∧ r ≤ 4294967295) ∧ (0 ≤ c ∧ c ≤ 2) then ((([85, 83, 66, 83] ++ lb t) ++ lb r) ++ strOf [IntKind.wrap .u8 c], 0) else ([], 1)
theorem statP (n : Nat) (t r c : Int) : F32 n t r c = some (stV t r c) := by
  unfold F32 stV
  rw [is32, is32]
  simp only [Option.bind_some]
  have jt : F32_j2 n t r c true = some ([], 1) := rfl
  have jf : F32_j2 n t r c false = some ((([85, 83, 66, 83] ++ lb t) ++ lb r) ++ strOf [IntKind.wrap .u8 c], 0) := by
    simp only [F32_j2, longW]; rfl
  by_cases ht : 0 ≤ t ∧ t ≤ 4294967295
  · rw [decide_eq_true ht]
    by_cases hr : 0 ≤ r ∧ r ≤ 4294967295
    · rw [decide_eq_true hr]
      by_cases h0 : c < 0
      · rw [decide_eq_true h0, if_neg (by omega)]; exact jt
      · rw [decide_eq_false h0]
        by_cases h2 : c > 2
        · rw [decide_eq_true h2, if_neg (by omega)]; exact jt
        · rw [decide_eq_false h2, if_pos ⟨ht, hr, by omega⟩]; exact jf
    · rw [decide_eq_false hr, if_neg (fun h => hr h.2.1)]; exact jt
  · rw [decide_eq_false ht, if_neg (fun h => ht h.1)]; exact jt
theorem statR (n : Nat) (hn : 100 < n) (t r c : Int) : F37 n t r c = some (stV t r c) := by
  unfold F37 stV
  rw [longR n hn, longR n hn, betC]
  simp only [Option.bind_some]
  have jt : F37_j2 n t r c true = some ([], 1) := rfl
  by_cases ht : 0 ≤ t ∧ t ≤ 4294967295
  · rw [decide_eq_true ht]
    by_cases hr : 0 ≤ r ∧ r ≤ 4294967295
    · rw [decide_eq_true hr]
      by_cases hc : 0 ≤ c ∧ c ≤ 2
      · rw [decide_eq_true hc, if_pos ⟨ht, hr, hc⟩]
        have hb : F70 n [c] = some (strOf [IntKind.wrap .u8 c], true) := by
          obtain ⟨q, rfl⟩ : ∃ q, n = q + 10 := ⟨n - 10, by omega⟩
          have b0 : ∀ q, F70 (q + 10) [(0 : Int)] = some (strOf [IntKind.wrap .u8 0], true) := fun q => by kernel_rfl
          have b1 : ∀ q, F70 (q + 10) [(1 : Int)] = some (strOf [IntKind.wrap .u8 1], true) := fun q => by kernel_rfl
          have b2 : ∀ q, F70 (q + 10) [(2 : Int)] = some (strOf [IntKind.wrap .u8 2], true) := fun q => by kernel_rfl
          have hcc : c = 0 ∨ c = 1 ∨ c = 2 := by omega
          rcases hcc with e | e | e
          · rw [e]; exact b0 q
          · rw [e]; exact b1 q
          · rw [e]; exact b2 q
        simp only [Bool.not_true, cond_false, F37_j2, hb, lowR n t ht.1 ht.2, lowR n r hr.1 hr.2, Option.bind_some]; rfl
      · rw [decide_eq_false hc, if_neg (fun h => hc h.2.2)]; exact jt
    · rw [decide_eq_false hr, if_neg (fun h => hr h.2.1)]; exact jt
  · rw [decide_eq_false ht, if_neg (fun h => ht h.1)]; exact jt
end Go.Proofs.Ytbodjbpgdkkohaa
