/- The law BulkWraps, in plain Lean. -/
import Derived.Test.YtbodjbpgdkkohaaFst
import Derived.Test.YtbodjbpgdkkohaaAm26
namespace Go.Proofs.Ytbodjbpgdkkohaa
open Go Go.RowKit
set_option linter.unusedVariables false

abbrev Tx := List UInt8
theorem betC (n : Nat) (v lo hi : Int) : F57 n v lo hi = some (decide (lo ≤ v ∧ v ≤ hi)) := by
  unfold F57
  by_cases h : lo ≤ v
  · rw [decide_eq_true h]
    simp only [cond_true, Option.some.injEq]
    rw [Bool.eq_iff_iff, decide_eq_true_iff, decide_eq_true_iff]
    exact ⟨fun e => ⟨h, e⟩, fun e => e.2⟩
  · rw [decide_eq_false h, decide_eq_false (show ¬ (lo ≤ v ∧ v ≤ hi) from fun hh => h hh.1)]; rfl
theorem is32 (n : Nat) (v : Int) : F64 n v = some (decide (0 ≤ v ∧ v ≤ 4294967295)) := by
  unfold F64
  by_cases h : 0 ≤ v
  · rw [decide_eq_true (show v ≥ 0 from h)]
    simp only [cond_true, Option.some.injEq]
    rw [Bool.eq_iff_iff, decide_eq_true_iff, decide_eq_true_iff]
    omega
  · rw [decide_eq_false (show ¬ v ≥ 0 from h), decide_eq_false (show ¬ (0 ≤ v ∧ v ≤ 4294967295) from fun hh => h hh.1)]; rfl
theorem two' (n : Nat) (hn : 100 < n) (k : Nat) (hk : k ≤ 40) : F46 n (k : Int) = some ((2 ^ k : Nat) : Int) := by
  unfold F46
  refine loopF_eq (F46_l2 n (k : Int)) (fun _ => some ((2 ^ k : Nat) : Int)) (fun d => ∃ j : Nat, d = (((2 ^ j : Nat) : Int), (j : Int)) ∧ j ≤ k) (fun d => k - d.2.toNat) ?_ n (1, 0) ⟨0, rfl, by omega⟩ (by simp; omega)
  rintro kk d ⟨j, rfl, hj⟩ ih
  simp only [F46_l2]
  by_cases h : j < k
  · have : 2 ^ j < 2 ^ 40 := Nat.pow_lt_pow_right (by omega) (by omega)
    have e2 : IntKind.wrap .i64 (((2 ^ j : Nat) : Int) * 2) = ((2 ^ (j + 1) : Nat) : Int) := by
      rw [Nat.pow_succ]
      generalize 2 ^ j = p at *
      rw [w64 (by omega) (by omega)]; omega
    rw [decide_eq_true (show (j : Int) < (k : Int) by omega), w64 (n := (j : Int) + 1) (by omega) (by omega), e2]
    exact ih _ ⟨j + 1, rfl, by omega⟩ (by simp only [Int.toNat_natCast]; omega)
  · obtain rfl : j = k := by omega
    rw [decide_eq_false (by omega)]; rfl
theorem longR (n : Nat) (hn : 100 < n) (v : Int) : F69 n v = some (decide (0 ≤ v ∧ v ≤ 4294967295)) := by
  unfold F69
  have := two' n hn 32 (by omega)
  rw [show ((32 : Nat) : Int) = 32 from rfl, show ((2 ^ 32 : Nat) : Int) = 4294967296 by decide] at this
  rw [this, Option.bind_some, betC, w64 (by omega) (by omega)]
  rfl
/-- four bytes of a number, the low one first -/
def lb (v : Int) : Tx := strOf [v % 256, v / 256 % 256, v / 65536 % 256, v / 16777216 % 256]
theorem lb_len (v : Int) : (lb v).length = 4 := rfl
theorem longW (n : Nat) (v : Int) : F65 n v = some (lb v) := by
  unfold F65 lb
  have s8 := shr_div .i64 v 8 (by decide)
  have s16 := shr_div .i64 v 16 (by decide)
  have s24 := shr_div .i64 v 24 (by decide)
  rw [show ((8 : Nat) : Int) = 8 from rfl, show (2 : Int) ^ 8 = 256 by decide] at s8
  rw [show ((16 : Nat) : Int) = 16 from rfl, show (2 : Int) ^ 16 = 65536 by decide] at s16
  rw [show ((24 : Nat) : Int) = 24 from rfl, show (2 : Int) ^ 24 = 16777216 by decide] at s24
  rw [s8, s16, s24, u8w, u8w, u8w, u8w]
theorem lowR (n : Nat) (v : Int) (h0 : 0 ≤ v) (h1 : v ≤ 4294967295) : F71 n v = some (lb v) := by
  unfold F71 F90 lb
  rw [Int.tmod_eq_emod_of_nonneg (show 0 ≤ v by omega), Int.tdiv_eq_ediv_of_nonneg (show 0 ≤ v by omega), w64 (n := v / 65536) (by omega) (by omega), Int.tmod_eq_emod_of_nonneg (show 0 ≤ v % 65536 by omega), Int.tdiv_eq_ediv_of_nonneg (show 0 ≤ v % 65536 by omega), Int.tmod_eq_emod_of_nonneg (show 0 ≤ v / 65536 by omega), Int.tdiv_eq_ediv_of_nonneg (show 0 ≤ v / 65536 by omega), w64 (n := v % 65536 / 256) (by omega) (by omega), w64 (n := v / 65536 / 256) (by omega) (by omega), Int.tmod_eq_emod_of_nonneg (show 0 ≤ v % 65536 / 256 by omega), Int.tmod_eq_emod_of_nonneg (show 0 ≤ v / 65536 / 256 by omega), u8w, u8w, u8w, u8w]
  simp only [Option.bind_some, ← strOf_app]
  rw [decide_eq_true (by simp [strOf])]
  simp only [cond_true, Option.some.injEq, List.cons_append, List.nil_append]
  congr 1
  have c0 : v % 65536 % 256 % 256 = v % 256 := by omega
  have c1 : v % 65536 / 256 % 256 % 256 = v / 256 % 256 := by omega
  have c2 : v / 65536 % 256 % 256 = v / 65536 % 256 := by omega
  have c3 : v / 65536 / 256 % 256 % 256 = v / 16777216 % 256 := by omega
  rw [c0, c1, c2, c3]
def zeros (k : Nat) : Tx := List.replicate k 0
theorem rep_zeros : ∀ k, Lib.repeatL [0] k = zeros k
  | 0 => rfl
  | k + 1 => by rw [Lib.repeatL, rep_zeros k]; rfl
theorem repZ (n : Nat) (k : Nat) (hk : k ≤ 100) : F39 n [0] (k : Int) = some (zeros k) := by
  unfold F39
  rw [decide_eq_true (by simp; omega), Int.toNat_natCast, rep_zeros]; rfl
def head : Tx := [85, 83, 66, 67]
def mid (flag u : Int) (k : Nat) : Tx := strOf [flag, IntKind.wrap .u8 u, IntKind.wrap .u8 (k : Int)]
theorem mid_len (f u : Int) (k : Nat) : (mid f u k).length = 3 := rfl
/-- the wrapper's text -/
def wtext (t l flag u : Int) (c : Tx) : Tx := ((((head ++ lb t) ++ lb l) ++ mid flag u c.length) ++ c) ++ zeros (16 - c.length)
theorem wl (t l f u : Int) (c : Tx) : ((((head ++ lb t) ++ lb l) ++ mid f u c.length) ++ c).length = 15 + c.length := by
  simp only [List.length_append, lb_len, mid_len]
  show 4 + 4 + 4 + 3 + c.length = _
  omega
theorem progJ (n : Nat) (t l u : Int) (c : Tx) (hc : c.length ≤ 16) (f : Int) : F42_j4 n t l u c f = some (wtext t l f u c, 0) := by
  unfold F42_j4
  simp only [longW, Option.bind_some]
  have h1 : (head ++ lb t).length = 8 := rfl
  have h2 : ((head ++ lb t) ++ lb l).length = 12 := rfl
  have h3 : (((head ++ lb t) ++ lb l) ++ mid f u c.length).length = 15 := rfl
  have h4 := wl t l f u c
  have r0 : (bif decide (head.length + (lb t).length ≤ 9223372036854775807) then (bif decide ((head ++ lb t).length + (lb l).length ≤ 9223372036854775807) then (bif decide (((head ++ lb t) ++ lb l).length + (mid f u c.length).length ≤ 9223372036854775807) then (bif decide ((((head ++ lb t) ++ lb l) ++ mid f u c.length).length + c.length ≤ 9223372036854775807) then ((F39 n [0] (IntKind.wrap .i64 (31 - ((((((head ++ lb t) ++ lb l) ++ mid f u c.length) ++ c).length : Nat) : Int)))).bind fun y_5 => bif decide (((((head ++ lb t) ++ lb l) ++ mid f u c.length) ++ c).length + y_5.length ≤ 9223372036854775807) then some (((((head ++ lb t) ++ lb l) ++ mid f u c.length) ++ c) ++ y_5, 0) else none) else none) else none) else none) else none) = some (wtext t l f u c, (0 : Int)) := by
    rw [decide_eq_true (by rw [lb_len]; decide), decide_eq_true (by rw [h1, lb_len]; omega), decide_eq_true (by rw [h2, mid_len]; omega), decide_eq_true (by rw [h3]; omega), h4, w64 (by omega) (by omega), show (31 : Int) - ((15 + c.length : Nat) : Int) = ((16 - c.length : Nat) : Int) by omega, repZ n _ (by omega)]
    simp only [cond_true, Option.bind_some]
    rw [decide_eq_true (by simp [zeros]; omega)]; rfl
  exact r0
theorem bytes3 (n : Nat) (hn : 10 < n) (a b c : Int) (ha : 0 ≤ a ∧ a ≤ 255) (hb : 0 ≤ b ∧ b ≤ 255) (hc : 0 ≤ c ∧ c ≤ 255) : F70 n [a, b, c] = some (strOf [IntKind.wrap .u8 a, IntKind.wrap .u8 b, IntKind.wrap .u8 c], true) := by
  obtain ⟨m, rfl⟩ : ∃ m, n = m + 4 := ⟨n - 4, by omega⟩
  have e : F70 (m + 4) [a, b, c] = ((F57 (m + 4) a 0 255).bind fun y => bif !y then some ([], false) else ((F57 (m + 4) b 0 255).bind fun y => bif !y then some ([], false) else ((F57 (m + 4) c 0 255).bind fun y => bif !y then some ([], false) else some (strOf [IntKind.wrap .u8 a, IntKind.wrap .u8 b, IntKind.wrap .u8 c], true)))) := rfl
  rw [e, betC, decide_eq_true ha]
  simp only [Option.bind_some, Bool.not_true, cond_false, betC]
  rw [decide_eq_true hb]
  simp only [Option.bind_some, Bool.not_true, cond_false]
  rw [decide_eq_true hc]; rfl
def wgood (t l u : Int) (c : Tx) : Prop := (0 ≤ t ∧ t ≤ 4294967295) ∧ (0 ≤ l ∧ l ≤ 4294967295) ∧ (0 ≤ u ∧ u ≤ 15) ∧ (1 ≤ c.length ∧ c.length ≤ 16)
def flagI (b : Bool) : Int := if b then 128 else 0
open Classical in
noncomputable def wrapV (t l : Int) (b : Bool) (u : Int) (c : Tx) : Tx × Int := if wgood t l u c then (wtext t l (flagI b) u c, 0) else ([], 1)
theorem wrapP (n : Nat) (t l : Int) (b : Bool) (u : Int) (c : Tx) : F42 n t l b u c = some (wrapV t l b u c) := by
  have jt : F42_j3 n t l b u c true = some ([], 1) := rfl
  have no : ¬ wgood t l u c → some (([] : Tx), (1 : Int)) = some (wrapV t l b u c) := fun h => by unfold wrapV; rw [if_neg h]
  unfold F42
  rw [is32, is32]
  simp only [Option.bind_some, jt]
  by_cases q1 : 0 ≤ t ∧ t ≤ 4294967295
  · rw [decide_eq_true q1]
    by_cases q2 : 0 ≤ l ∧ l ≤ 4294967295
    · rw [decide_eq_true q2]
      simp only [Bool.not_true, cond_false]
      by_cases q3 : u < 0
      · rw [decide_eq_true q3]; exact no (fun h => by have := h.2.2.1; omega)
      rw [decide_eq_false q3]
      by_cases q4 : u > 15
      · rw [decide_eq_true q4]; exact no (fun h => by have := h.2.2.1; omega)
      rw [decide_eq_false q4]
      by_cases q5 : ((c.length : Nat) : Int) < 1
      · rw [decide_eq_true q5]; exact no (fun h => by have := h.2.2.2; omega)
      rw [decide_eq_false q5]
      by_cases q6 : ((c.length : Nat) : Int) > 16
      · rw [decide_eq_true q6]; exact no (fun h => by have := h.2.2.2; omega)
      rw [decide_eq_false q6]
      unfold F42_j3 wrapV
      rw [if_pos (show wgood t l u c from ⟨q1, q2, by omega, by omega⟩)]
      cases b
      · exact progJ n t l u c (by omega) 0
      · exact progJ n t l u c (by omega) 128
    · rw [decide_eq_false q2]; exact no (fun h => q2 h.2.1)
  · rw [decide_eq_false q1]; exact no (fun h => q1 h.1)
end Go.Proofs.Ytbodjbpgdkkohaa
