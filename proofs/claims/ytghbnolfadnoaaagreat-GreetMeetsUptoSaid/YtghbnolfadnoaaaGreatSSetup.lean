/- The law SetupReads, in plain Lean. -/
import Derived.Test.YtghbnolfadnoaaaGreatFgm
import Derived.Test.YtghbnolfadnoaaaGreatAm26
namespace Go.Proofs.YtghbnolfadnoaaaGreat.Sa
open Go Go.RowKit
set_option linter.unusedVariables false
def betw (lo hi v : Int) : Bool := decide (lo ≤ v) && decide (v ≤ hi)
theorem betw_ok {lo hi v : Int} (h : betw lo hi v = true) : lo ≤ v ∧ v ≤ hi := by simpa [betw] using h
theorem s114 (n : Nat) (lo hi v : Int) : F91 n lo hi v = some (betw lo hi v) := by
 unfold F91 betw
 show (bif decide (lo ≤ v) then _ else _) = _
 cases decide (lo ≤ v) <;> rfl
theorem s16 (n : Nat) (lo hi v : Int) : F17 n v lo hi = some (betw lo hi v) := by
 unfold F17 betw
 cases decide (lo ≤ v) <;> rfl
theorem s82_0 (n : Nat) (v : Int) : F60 n 0 v = some (v == 0) := rfl
theorem s82_1 (n : Nat) (v : Int) : F60 n 1 v = some (betw 0 65535 v) := by simp [F60, s114]
theorem s82_2 (n : Nat) (v : Int) : F60 n 2 v = some (betw 0 255 v) := by simp [F60, s114]
theorem s82_3 (n : Nat) (v : Int) : F60 n 3 v = some (betw 0 15 v || betw 128 143 v) := by
 simp [F60, s114]
 cases betw 0 15 v <;> rfl
theorem s82_4 (n : Nat) (v : Int) : F60 n 4 v = some (betw 0 127 v) := by simp [F60, s114]
theorem s82_5 (n : Nat) (v : Int) : F60 n 5 v = some (betw 1 15 v) := by simp [F60, s114]
theorem s82_6 (n : Nat) (v : Int) : F60 n 6 v = some (betw 0 31 v) := by simp [F60, s114]
theorem s82_7 (n : Nat) (v : Int) : F60 n 7 v = some (v == 512) := rfl
def tb (v : Int) : List UInt8 := strOf [IntKind.wrap .u8 v, IntKind.wrap .u8 (shrI .i64 v 8)]
theorem s73 (n : Nat) (v : Int) (h0 : 0 ≤ v) (h1 : v ≤ 65535) : F72 n v = some (tb v) := by
 unfold F72 tb strOf
 simp only [List.map_cons, List.map_nil, Option.some.injEq, List.cons.injEq, and_true]
 have e1 : v.tmod 256 = v % 256 := Int.tmod_eq_emod_of_nonneg h0
 have e2 : v.tdiv 256 = v / 256 := Int.tdiv_eq_ediv_of_nonneg h0
 have e3 : shrI .i64 v 8 = v / 256 := shr_div .i64 v 8 (by decide)
 rw [e1, e2, e3, w64 (by omega) (by omega), Int.tmod_eq_emod_of_nonneg (by omega)]
 simp only [u8w]
 constructor <;> apply u8_same <;> omega
theorem l6 (n m : Nat) (v i l : Int) (x y : Int) (hm : 4 ≤ m) : loopF (F29_l6 n v i l) m (0, [x, y]) = some (strOf [x, y] ++ (tb v ++ (tb i ++ tb l)), 0) := by
 obtain ⟨m, rfl⟩ : ∃ m', m = m' + 4 := ⟨m - 4, by omega⟩
 rfl
def ans (h : List UInt8) (V I L : Bool) (v i l : Int) : List UInt8 × Int := if V && (I && L) then (h ++ (tb v ++ (tb i ++ tb l)), 0) else ([], 1)
theorem s29 (n : Nat) (hn : 4 ≤ n) (k v i l h1 h2 wv wi len : Int) (V I : Bool) (hr : F59 n k = some (h1, h2, wv, wi, len, true)) (hV : F60 n wv v = some V) (hI : F60 n wi i = some I) :
  F29 n k v i l = some (ans (strOf [h1, h2]) V I (l == len || (decide (len < 0) && betw 0 65535 l)) v i l) := by
 have j : ∀ L : Bool, F29_j4 n v i l (h1, h2, wv, wi, len, true) L = some (ans (strOf [h1, h2]) V I L v i l) := by
  intro L
  unfold F29_j4 ans
  simp only [hV, hI, Option.bind_some, Bool.not_true, cond_false]
  cases V <;> cases I <;> cases L <;> simp only [Bool.not_true, Bool.not_false, cond_true, cond_false, F29_j5, Bool.and_true, Bool.and_false, Bool.false_and, Bool.true_and, if_true, if_false, Bool.false_eq_true]
  exact l6 n n v i l h1 h2 hn
 unfold F29
 rw [hr]
 simp only [Option.bind_some, j, s82_1]
 cases l == len
 ·cases decide (len < 0) <;> rfl
 ·rfl
def heads : List UInt8 := [128, 0, 2, 1, 2, 3, 0, 5, 128, 6, 0, 9, 128, 8, 163, 0, 35, 3, 35, 1, 33, 255, 161, 254, 33, 10, 33, 9]
theorem tb_len (v : Int) : (tb v).length = 2 := rfl
theorem s30 (n : Nat) (k v i l : Int) (h : List UInt8) (V I L : Bool) (hk : betw 1 14 k = true) (hV : F75 n k v = some V) (hI : F76 n k i = some I) (hL : F77 n k l = some L)
  (hs : subB heads.length (some (IntKind.wrap .i64 ((IntKind.wrap .i64 (2 * k)) - 2))) (some (IntKind.wrap .i64 (2 * k))) = true) (hh : (heads.take (IntKind.wrap .i64 (2 * k)).toNat).drop (IntKind.wrap .i64 ((IntKind.wrap .i64 (2 * k)) - 2)).toNat = h) (hl : h.length ≤ 2)
  (rV : V = true → 0 ≤ v ∧ v ≤ 65535) (rI : I = true → 0 ≤ i ∧ i ≤ 65535) (rL : L = true → 0 ≤ l ∧ l ≤ 65535) : F38 n k v i l = some (ans h V I L v i l) := by
 unfold F38
 rw [s16, hk, hV, hI, hL]
 simp only [Option.bind_some, Bool.not_true, cond_false]
 have jt : F38_j2 n k v i l true = some ([], 1) := rfl
 cases V
 ·simp only [Bool.not_false, cond_true, jt]; rfl
 cases I
 ·simp only [Bool.not_false, Bool.not_true, cond_false, cond_true, jt]; rfl
 cases L
 ·simp only [Bool.not_false, Bool.not_true, cond_false, cond_true, jt]; rfl
 simp only [Bool.not_true, cond_false]
 have := rV rfl
 have := rI rfl
 have := rL rfl
 have e1 := s73 n v (by omega) (by omega)
 have e2 := s73 n i (by omega) (by omega)
 have e3 := s73 n l (by omega) (by omega)
 have hs' : subB ([128, 0, 2, 1, 2, 3, 0, 5, 128, 6, 0, 9, 128, 8, 163, 0, 35, 3, 35, 1, 33, 255, 161, 254, 33, 10, 33, 9] : List UInt8).length (some (IntKind.wrap .i64 ((IntKind.wrap .i64 (2 * k)) - 2))) (some (IntKind.wrap .i64 (2 * k))) = true := hs
 have hh' : (([128, 0, 2, 1, 2, 3, 0, 5, 128, 6, 0, 9, 128, 8, 163, 0, 35, 3, 35, 1, 33, 255, 161, 254, 33, 10, 33, 9] : List UInt8).take (IntKind.wrap .i64 (2 * k)).toNat).drop (IntKind.wrap .i64 ((IntKind.wrap .i64 (2 * k)) - 2)).toNat = h := hh
 unfold F38_j2
 simp only [cond_false, e1, e2, e3, Option.bind_some, hs', hh', cond_true]
 rw [decide_eq_true (show h.length + (tb v).length ≤ 9223372036854775807 by rw [tb_len]; omega), decide_eq_true (show (h ++ tb v).length + (tb i).length ≤ 9223372036854775807 by rw [List.length_append, tb_len, tb_len]; omega), decide_eq_true (show (h ++ tb v ++ tb i).length + (tb l).length ≤ 9223372036854775807 by rw [List.length_append, List.length_append, tb_len, tb_len, tb_len]; omega)]
 simp [ans]
theorem kinds (k : Int) : k = 1 ∨ k = 2 ∨ k = 3 ∨ k = 4 ∨ k = 5 ∨ k = 6 ∨ k = 7 ∨ k = 8 ∨ k = 9 ∨ k = 10 ∨ k = 11 ∨ k = 12 ∨ k = 13 ∨ k = 14 ∨ ¬ (1 ≤ k ∧ k ≤ 14) := by omega
theorem eq0 {v c : Int} (h : (v == c) = true) (h0 : 0 ≤ c) (h1 : c ≤ 65535) : 0 ≤ v ∧ v ≤ 65535 := by
 have : v = c := by simpa using h
 omega
theorem btw0 {lo hi v : Int} (h : betw lo hi v = true) (h0 : 0 ≤ lo) (h1 : hi ≤ 65535) : 0 ≤ v ∧ v ≤ 65535 := by
 have := betw_ok h
 omega
theorem btw2 {a b c d v : Int} (h : (betw a b v || betw c d v) = true) (h0 : 0 ≤ a) (h1 : b ≤ 65535) (h2 : 0 ≤ c) (h3 : d ≤ 65535) : 0 ≤ v ∧ v ≤ 65535 := by
 rw [Bool.or_eq_true] at h
 rcases h with h | h
 ·exact btw0 h h0 h1
 ·exact btw0 h h2 h3
def headK (k : Int) : List UInt8 := (heads.take (2 * k).toNat).drop (2 * k - 2).toNat
theorem len1 (l c : Int) (h : (decide (c < 0)) = false) : (l == c || (decide (c < 0) && betw 0 65535 l)) = (l == c) := by rw [h]; simp
theorem ask_same (n : Nat) (hn : 4 ≤ n) (k v i l : Int) (h0 : 0 ≤ l) : ∃ V I L, F29 n k v i l = some (if betw 1 14 k then ans (headK k) V I L v i l else ([], 1)) ∧ F38 n k v i l = some (if betw 1 14 k then ans (headK k) V I L v i l else ([], 1)) := by
 rcases kinds k with rfl | rfl | rfl | rfl | rfl | rfl | rfl | rfl | rfl | rfl | rfl | rfl | rfl | rfl | hk
 ·refine ⟨v == 0, i == 0, l == 2, ?_, ?_⟩
  ·rw [s29 n hn 1 v i l _ _ _ _ _ _ _ rfl (s82_0 n v) (s82_0 n i), len1 l _ rfl]; rfl
  ·rw [s30 n 1 v i l (headK 1) (v == 0) (i == 0) (l == 2) rfl (by simp [F75, F75_j3, F75_j4, s16]) (by simp [F76, s16, betw]) rfl rfl rfl (by decide) (fun h => eq0 h (by omega) (by omega)) (fun h => eq0 h (by omega) (by omega)) (fun h => eq0 h (by omega) (by omega))]; rfl
 ·refine ⟨v == 0, betw 0 15 i || betw 128 143 i, l == 0, ?_, ?_⟩
  ·rw [s29 n hn 2 v i l _ _ _ _ _ _ _ rfl (s82_0 n v) (s82_3 n i), len1 l _ rfl]; rfl
  ·rw [s30 n 2 v i l (headK 2) (v == 0) (betw 0 15 i || betw 128 143 i) (l == 0) rfl (by simp [F75, F75_j3, F75_j4, s16]) (by simp [F76, s16]; cases betw 0 15 i <;> rfl) rfl rfl rfl (by decide) (fun h => eq0 h (by omega) (by omega)) (fun h => btw2 h (by omega) (by omega) (by omega) (by omega)) (fun h => eq0 h (by omega) (by omega))]; rfl
 ·refine ⟨v == 0, betw 0 15 i || betw 128 143 i, l == 0, ?_, ?_⟩
  ·rw [s29 n hn 3 v i l _ _ _ _ _ _ _ rfl (s82_0 n v) (s82_3 n i), len1 l _ rfl]; rfl
  ·rw [s30 n 3 v i l (headK 3) (v == 0) (betw 0 15 i || betw 128 143 i) (l == 0) rfl (by simp [F75, F75_j3, F75_j4, s16]) (by simp [F76, s16]; cases betw 0 15 i <;> rfl) rfl rfl rfl (by decide) (fun h => eq0 h (by omega) (by omega)) (fun h => btw2 h (by omega) (by omega) (by omega) (by omega)) (fun h => eq0 h (by omega) (by omega))]; rfl
 ·refine ⟨betw 0 127 v, i == 0, l == 0, ?_, ?_⟩
  ·rw [s29 n hn 4 v i l _ _ _ _ _ _ _ rfl (s82_4 n v) (s82_0 n i), len1 l _ rfl]; rfl
  ·rw [s30 n 4 v i l (headK 4) (betw 0 127 v) (i == 0) (l == 0) rfl (by simp [F75, F75_j3, F75_j4, s16]) (by simp [F76, s16, betw]) rfl rfl rfl (by decide) (fun h => btw0 h (by omega) (by omega)) (fun h => eq0 h (by omega) (by omega)) (fun h => eq0 h (by omega) (by omega))]; rfl
 ·refine ⟨betw 0 65535 v, betw 0 65535 i, betw 0 65535 l, ?_, ?_⟩
  ·have e : (l == (-1 : Int) || (decide ((-1 : Int) < 0) && betw 0 65535 l)) = betw 0 65535 l := by
    have : (l == (-1 : Int)) = false := by rw [beq_eq_false_iff_ne]; omega
    rw [this]; rfl
   rw [s29 n hn 5 v i l _ _ _ _ _ _ _ rfl (s82_1 n v) (s82_1 n i), e]; rfl
  ·rw [s30 n 5 v i l (headK 5) (betw 0 65535 v) (betw 0 65535 i) (betw 0 65535 l) rfl (by simp [F75, F75_j3, F75_j4, s16]) (by simp [F76, s16, betw]) (by simp [F77, s16]) rfl rfl (by decide) (fun h => btw0 h (by omega) (by omega)) (fun h => btw0 h (by omega) (by omega)) (fun h => btw0 h (by omega) (by omega))]; rfl
 ·refine ⟨betw 0 255 v, i == 0, l == 0, ?_, ?_⟩
  ·rw [s29 n hn 6 v i l _ _ _ _ _ _ _ rfl (s82_2 n v) (s82_0 n i), len1 l _ rfl]; rfl
  ·rw [s30 n 6 v i l (headK 6) (betw 0 255 v) (i == 0) (l == 0) rfl (by simp [F75, F75_j3, F75_j4, s16]) (by simp [F76, s16, betw]) rfl rfl rfl (by decide) (fun h => btw0 h (by omega) (by omega)) (fun h => eq0 h (by omega) (by omega)) (fun h => eq0 h (by omega) (by omega))]; rfl
 ·refine ⟨v == 0, i == 0, l == 1, ?_, ?_⟩
  ·rw [s29 n hn 7 v i l _ _ _ _ _ _ _ rfl (s82_0 n v) (s82_0 n i), len1 l _ rfl]; rfl
  ·rw [s30 n 7 v i l (headK 7) (v == 0) (i == 0) (l == 1) rfl (by simp [F75, F75_j3, F75_j4, s16]) (by simp [F76, s16, betw]) rfl rfl rfl (by decide) (fun h => eq0 h (by omega) (by omega)) (fun h => eq0 h (by omega) (by omega)) (fun h => eq0 h (by omega) (by omega))]; rfl
 ·refine ⟨v == 0, betw 1 15 i, l == 4, ?_, ?_⟩
  ·rw [s29 n hn 8 v i l _ _ _ _ _ _ _ rfl (s82_0 n v) (s82_5 n i), len1 l _ rfl]; rfl
  ·rw [s30 n 8 v i l (headK 8) (v == 0) (betw 1 15 i) (l == 4) rfl (by simp [F75, F75_j3, F75_j4, s16]) (by simp [F76, s16, betw]) rfl rfl rfl (by decide) (fun h => eq0 h (by omega) (by omega)) (fun h => btw0 h (by omega) (by omega)) (fun h => eq0 h (by omega) (by omega))]; rfl
 ·refine ⟨betw 0 31 v, betw 1 15 i, l == 0, ?_, ?_⟩
  ·rw [s29 n hn 9 v i l _ _ _ _ _ _ _ rfl (s82_6 n v) (s82_5 n i), len1 l _ rfl]; rfl
  ·rw [s30 n 9 v i l (headK 9) (betw 0 31 v) (betw 1 15 i) (l == 0) rfl (by simp [F75, F75_j3, F75_j4, s16]) (by simp [F76, s16, betw]) rfl rfl rfl (by decide) (fun h => btw0 h (by omega) (by omega)) (fun h => btw0 h (by omega) (by omega)) (fun h => eq0 h (by omega) (by omega))]; rfl
 ·refine ⟨betw 0 31 v, betw 1 15 i, l == 0, ?_, ?_⟩
  ·rw [s29 n hn 10 v i l _ _ _ _ _ _ _ rfl (s82_6 n v) (s82_5 n i), len1 l _ rfl]; rfl
  ·rw [s30 n 10 v i l (headK 10) (betw 0 31 v) (betw 1 15 i) (l == 0) rfl (by simp [F75, F75_j3, F75_j4, s16]) (by simp [F76, s16, betw]) rfl rfl rfl (by decide) (fun h => btw0 h (by omega) (by omega)) (fun h => btw0 h (by omega) (by omega)) (fun h => eq0 h (by omega) (by omega))]; rfl
 ·refine ⟨v == 0, betw 0 255 i, l == 0, ?_, ?_⟩
  ·rw [s29 n hn 11 v i l _ _ _ _ _ _ _ rfl (s82_0 n v) (s82_2 n i), len1 l _ rfl]; rfl
  ·rw [s30 n 11 v i l (headK 11) (v == 0) (betw 0 255 i) (l == 0) rfl (by simp [F75, F75_j3, F75_j4, s16]) (by simp [F76, s16, betw]) rfl rfl rfl (by decide) (fun h => eq0 h (by omega) (by omega)) (fun h => btw0 h (by omega) (by omega)) (fun h => eq0 h (by omega) (by omega))]; rfl
 ·refine ⟨v == 0, betw 0 255 i, l == 1, ?_, ?_⟩
  ·rw [s29 n hn 12 v i l _ _ _ _ _ _ _ rfl (s82_0 n v) (s82_2 n i), len1 l _ rfl]; rfl
  ·rw [s30 n 12 v i l (headK 12) (v == 0) (betw 0 255 i) (l == 1) rfl (by simp [F75, F75_j3, F75_j4, s16]) (by simp [F76, s16, betw]) rfl rfl rfl (by decide) (fun h => eq0 h (by omega) (by omega)) (fun h => btw0 h (by omega) (by omega)) (fun h => eq0 h (by omega) (by omega))]; rfl
 ·refine ⟨betw 0 65535 v, betw 0 255 i, l == 0, ?_, ?_⟩
  ·rw [s29 n hn 13 v i l _ _ _ _ _ _ _ rfl (s82_1 n v) (s82_2 n i), len1 l _ rfl]; rfl
  ·rw [s30 n 13 v i l (headK 13) (betw 0 65535 v) (betw 0 255 i) (l == 0) rfl (by simp [F75, F75_j3, F75_j4, s16]) (by simp [F76, s16, betw]) rfl rfl rfl (by decide) (fun h => btw0 h (by omega) (by omega)) (fun h => btw0 h (by omega) (by omega)) (fun h => eq0 h (by omega) (by omega))]; rfl
 ·refine ⟨v == 512, betw 0 255 i, l == 1, ?_, ?_⟩
  ·rw [s29 n hn 14 v i l _ _ _ _ _ _ _ rfl (s82_7 n v) (s82_2 n i), len1 l _ rfl]; rfl
  ·rw [s30 n 14 v i l (headK 14) (v == 512) (betw 0 255 i) (l == 1) rfl (by simp [F75, F75_j3, F75_j4, s16]) (by simp [F76, s16, betw]) rfl rfl rfl (by decide) (fun h => eq0 h (by omega) (by omega)) (fun h => btw0 h (by omega) (by omega)) (fun h => eq0 h (by omega) (by omega))]; rfl
 ·have hb : betw 1 14 k = false := by
   rw [← Bool.not_eq_true]; intro h; exact hk (betw_ok h)
  refine ⟨true, true, true, ?_, ?_⟩
  ·have e : F59 n k = some (0, 0, 0, 0, 0, false) := by
    have : ∀ c : Int, 1 ≤ c → c ≤ 14 → (k == c) = false := by intro c h1 h2; rw [beq_eq_false_iff_ne]; omega
    unfold F59
    simp only [this 1 (by omega) (by omega), this 2 (by omega) (by omega), this 3 (by omega) (by omega), this 4 (by omega) (by omega), this 5 (by omega) (by omega), this 6 (by omega) (by omega), this 7 (by omega) (by omega), this 8 (by omega) (by omega), this 9 (by omega) (by omega), this 10 (by omega) (by omega), this 11 (by omega) (by omega), this 12 (by omega) (by omega), this 13 (by omega) (by omega), this 14 (by omega) (by omega), cond_false]
   unfold F29
   rw [e, hb]
   simp only [Option.bind_some]
   cases l == 0 <;> rfl
  ·unfold F38
   rw [s16, hb]
   rfl
def by' (s : List UInt8) (i : Nat) : Nat := (s.getD i 0).toNat
theorem by_lt (s : List UInt8) (i : Nat) : by' s i < 256 := (s.getD i 0).toNat_lt
def wd (s : List UInt8) (i : Nat) : Nat := by' s i + by' s (i + 1) * 256
theorem s106 (n : Nat) (s : List UInt8) (i : Nat) (h : i + 1 < s.length) (hl : s.length = 8) : F61 n i s = some (wd s i : Int) := by
 have b0 := by_lt s i
 have b1 := by_lt s (i + 1)
 unfold F61
 rw [w64 (n := (i : Int) + 1) (by omega) (by omega), show (i : Int) + 1 = ((i + 1 : Nat) : Int) by omega, inb_true (by omega) (show (i : Int) < s.length by omega), inb_true (by omega) (show ((i + 1 : Nat) : Int) < s.length by omega)]
 simp only [cond_true, Int.toNat_natCast]
 show some (bitsI .or .i64 (IntKind.wrap .i64 (by' s i : Int)) (shlI .i64 (IntKind.wrap .i64 (by' s (i + 1) : Int)) 8)) = _
 rw [w64n _ (by omega), w64n _ (by omega), show (8 : Int) = ((8 : Nat) : Int) from rfl, shl_mul _ 8 (by omega) (by omega), bOrAdd _ _ 8 (by omega) (by omega)]
 rfl
theorem s77 (n : Nat) (s : List UInt8) (i : Nat) (h : i + 1 < s.length) (hl : s.length = 8) : F80 n s i = some (wd s i : Int) := by
 have b0 := by_lt s i
 have b1 := by_lt s (i + 1)
 unfold F80
 rw [w64 (n := (i : Int) + 1) (by omega) (by omega), show (i : Int) + 1 = ((i + 1 : Nat) : Int) by omega, inb_true (by omega) (show (i : Int) < s.length by omega), inb_true (by omega) (show ((i + 1 : Nat) : Int) < s.length by omega)]
 simp only [cond_true, Int.toNat_natCast]
 show some (IntKind.wrap .i64 (IntKind.wrap .i64 (256 * IntKind.wrap .i64 (by' s (i + 1) : Int)) + IntKind.wrap .i64 (by' s i : Int))) = _
 rw [w64n _ (by omega), w64n _ (by omega), w64 (n := 256 * (by' s (i + 1) : Int)) (by omega) (by omega), w64 (by omega) (by omega)]
 unfold wd
 congr 1
 omega
theorem tb_wd (s : List UInt8) (i : Nat) : tb (wd s i : Int) = [s.getD i 0, s.getD (i + 1) 0] := by
 have b0 := by_lt s i
 have b1 := by_lt s (i + 1)
 unfold tb strOf
 simp only [List.map_cons, List.map_nil, u8w, show (8 : Int) = ((8 : Nat) : Int) from rfl, shr_div .i64 _ 8 (by decide)]
 have e0 : ((wd s i : Nat) : Int) % 256 = (by' s i : Nat) := by unfold wd; omega
 have e1 : ((wd s i : Nat) : Int) / 2 ^ 8 % 256 = (by' s (i + 1) : Nat) := by unfold wd; omega
 rw [e0, e1]
 unfold by'
 rw [u8_nat, u8_nat]
theorem rest_eq (s : List UInt8) (hl : s.length = 8) : tb (wd s 2 : Int) ++ (tb (wd s 4 : Int) ++ tb (wd s 6 : Int)) = s.drop 2 := by
 rw [tb_wd, tb_wd, tb_wd]
 match s, hl with
 | [a, b, c, d, e, f, g, h], _ => rfl
theorem ask_k (n : Nat) (hn : 4 ≤ n) (k v i l : Int) (h0 : 0 ≤ l) : ∃ r, F29 n k v i l = some r ∧ F38 n k v i l = some r ∧ (r = ([], 1) ∨ r = (headK k ++ (tb v ++ (tb i ++ tb l)), 0)) := by
 obtain ⟨V, I, L, h1, h2⟩ := ask_same n hn k v i l h0
 refine ⟨_, h1, h2, ?_⟩
 cases betw 1 14 k
 ·exact .inl rfl
 ·unfold ans
  cases V <;> cases I <;> cases L <;> first | exact .inl rfl | exact .inr rfl
def noAsk : Int × Int × Int × Int × Int := (0, 0, 0, 0, 12)
theorem head_len : ∀ k : _root_.Fin 15, 1 ≤ k.val → (headK (k.val : Int)).length = 2 := by decide
theorem head_one : ∀ j k : _root_.Fin 15, 1 ≤ j.val → 1 ≤ k.val → headK (j.val : Int) = headK (k.val : Int) → j = k := by decide +kernel
theorem app_eq (s h : List UInt8) (hl : s.length = 8) (hh : h.length = 2) : (h ++ s.drop 2 == s) = (s.take 2 == h) := by
 rw [Bool.eq_iff_iff, beq_iff_eq, beq_iff_eq]
 constructor
 ·intro e; rw [← e, List.take_append_of_le_length (by omega), List.take_of_length_le (by omega)]
 ·intro e; rw [← e, List.take_append_drop]
theorem r55 (n : Nat) (hn : 4 ≤ n) (s : List UInt8) (hl : s.length = 8) (k : Nat) (hk1 : 1 ≤ k) (hk : k ≤ 14) (K : Int → Option (Int × Int × Int × Int × Int)) (r : List UInt8 × Int) (hr : F29 n k (wd s 2) (wd s 4) (wd s 6) = some r) :
  F31_l2 n s K (k : Int) = if r.2 = 0 ∧ r.1 = s then some ((k : Int), (wd s 2 : Int), (wd s 4 : Int), (wd s 6 : Int), 0) else K ((k + 1 : Nat) : Int) := by
 unfold F31_l2
 simp only
 rw [decide_eq_true (show (k : Int) ≤ 14 by omega)]
 have e2 := s106 n s 2 (by omega) hl
 have e4 := s106 n s 4 (by omega) hl
 have e6 := s106 n s 6 (by omega) hl
 simp only [cond_true]
 rw [show (2 : Int) = ((2 : Nat) : Int) from rfl, show (4 : Int) = ((4 : Nat) : Int) from rfl, show (6 : Int) = ((6 : Nat) : Int) from rfl, e2, e4, e6]
 simp only [Option.bind_some]
 rw [hr]
 simp only [Option.bind_some]
 rw [w64 (n := (k : Int) + 1) (by omega) (by omega), show (k : Int) + 1 = ((k + 1 : Nat) : Int) by omega]
 by_cases h1 : r.2 = 0
 ·by_cases h2 : r.1 = s
  ·rw [if_pos ⟨h1, h2⟩, h1, h2]; simp
  ·rw [if_neg (fun h => h2 h.2), h1, show (r.1 == s) = false by simpa using h2]; simp
 ·rw [if_neg (fun h => h1 h.1), show (r.2 == 0) = false by simpa using h1]; simp
theorem r56 (n : Nat) (hn : 4 ≤ n) (s : List UInt8) (hl : s.length = 8) (k : Nat) (hk1 : 1 ≤ k) (hk : k ≤ 14) (K : Int → Option (Int × Int × Int × Int × Int)) (r : List UInt8 × Int) (hr : F38 n k (wd s 2) (wd s 4) (wd s 6) = some r) :
  F40_l2 n s K ((2 * (k - 1) : Nat) : Int) = if s.take 2 = headK k then (if r.2 ≠ 0 then some noAsk else some ((k : Int), (wd s 2 : Int), (wd s 4 : Int), (wd s 6 : Int), 0)) else K ((2 * (k + 1 - 1) : Nat) : Int) := by
 have e2 := s77 n s 2 (by omega) hl
 have e4 := s77 n s 4 (by omega) hl
 have e6 := s77 n s 6 (by omega) hl
 have hw : IntKind.wrap .i64 (((2 * (k - 1) : Nat) : Int) + 2) = 2 * (k : Int) := by rw [w64 (by omega) (by omega)]; omega
 have hsub : subB ([128, 0, 2, 1, 2, 3, 0, 5, 128, 6, 0, 9, 128, 8, 163, 0, 35, 3, 35, 1, 33, 255, 161, 254, 33, 10, 33, 9] : List UInt8).length (some (((2 * (k - 1) : Nat) : Int))) (some (2 * (k : Int))) = true := by
  simp only [subB, Bool.and_eq_true, decide_eq_true_eq]
  show ((_ ∧ 2 * (k : Int) ≤ ((28 : Nat) : Int)) ∧ _)
  omega
 have hhead : (([128, 0, 2, 1, 2, 3, 0, 5, 128, 6, 0, 9, 128, 8, 163, 0, 35, 3, 35, 1, 33, 255, 161, 254, 33, 10, 33, 9] : List UInt8).take (2 * (k : Int)).toNat).drop (((2 * (k - 1) : Nat) : Int)).toNat = headK k := by
  unfold headK heads
  rw [show (2 * (k : Int) - 2).toNat = (((2 * (k - 1) : Nat) : Int)).toNat by omega]
 have hlen := head_len ⟨k, by omega⟩ hk1
 simp only at hlen
 unfold F40_l2
 simp only
 rw [decide_eq_true (show (((2 * (k - 1) : Nat) : Int)) < 28 by omega), hw, hsub, hhead]
 have hp : F79 n s (headK k) = some (s.take 2 == headK k) := by
  unfold F79 F100
  rw [hlen, decide_eq_true (show ((s.length : Nat) : Int) ≥ ((2 : Nat) : Int) by omega), show subB s.length none (some ((2 : Nat) : Int)) = true by simp [subB]; omega]
  rfl
 have hq : IntKind.wrap .i64 (IntKind.wrap .i64 ((((2 * (k - 1) : Nat) : Int)).tdiv 2) + 1) = (k : Int) := by
  rw [Int.tdiv_eq_ediv_of_nonneg (by omega), w64 (n := (((2 * (k - 1) : Nat) : Int)) / 2) (by omega) (by omega), w64 (by omega) (by omega)]
  omega
 simp only [cond_true]
 rw [hp, hq, show (2 : Int) = ((2 : Nat) : Int) from rfl, show (4 : Int) = ((4 : Nat) : Int) from rfl, show (6 : Int) = ((6 : Nat) : Int) from rfl, e2, e4, e6]
 simp only [Option.bind_some]
 rw [hr]
 simp only [Option.bind_some]
 by_cases h : s.take 2 = headK k
 ·rw [if_pos h, show (s.take 2 == headK k) = true by simpa using h]
  simp only [cond_true]
  by_cases h2 : r.2 = 0
  ·rw [h2, if_neg (by simp)]; rfl
  ·rw [if_pos h2, show (r.2 != 0) = true by simpa using h2]; rfl
 ·rw [if_neg h, show (s.take 2 == headK k) = false by simpa using h]
  simp only [cond_false]
  congr 1
theorem none55 (n : Nat) (hn : 4 ≤ n) (s : List UInt8) (hl : s.length = 8) : ∀ (m k f : Nat), 1 ≤ k → k + m = 15 → m < f → (∀ j : Nat, k ≤ j → j ≤ 14 → s.take 2 ≠ headK j) → loopF (F31_l2 n s) f (k : Int) = some noAsk
 | m, k, 0, _, _, h, _ => by omega
 | 0, k, f + 1, hk1, hk, hf, hno => by
  show F31_l2 n s (loopF (F31_l2 n s) f) (k : Int) = _
  unfold F31_l2
  simp only
  rw [decide_eq_false (show ¬ (k : Int) ≤ 14 by omega)]
  rfl
 | m + 1, k, f + 1, hk1, hk, hf, hno => by
  obtain ⟨r, h1, _, h3⟩ := ask_k n hn k (wd s 2) (wd s 4) (wd s 6) (by omega)
  show F31_l2 n s (loopF (F31_l2 n s) f) (k : Int) = _
  rw [r55 n hn s hl k hk1 (by omega) _ r h1, if_neg]
  ·exact none55 n hn s hl m (k + 1) f (by omega) (by omega) (by omega) fun j hj1 hj2 => hno j (by omega) hj2
  ·rintro ⟨h4, h5⟩
   rcases h3 with rfl | rfl
   ·cases h4
   ·rw [rest_eq s hl] at h5
    have := app_eq s (headK k) hl (head_len ⟨k, by omega⟩ hk1)
    rw [show (headK k ++ s.drop 2 == s) = true by simpa using h5] at this
    exact hno k (by omega) (by omega) (by simpa using this.symm)
theorem read_same (n : Nat) (hn : 4 ≤ n) (s : List UInt8) (hl : s.length = 8) : ∀ (m k f f' : Nat), 1 ≤ k → k + m = 15 → m < f → m < f' → ∃ r, loopF (F31_l2 n s) f (k : Int) = some r ∧ loopF (F40_l2 n s) f' ((2 * (k - 1) : Nat) : Int) = some r ∧ (r = noAsk ∨ ∃ j : Nat, 1 ≤ j ∧ j ≤ 14 ∧ r = ((j : Int), (wd s 2 : Int), (wd s 4 : Int), (wd s 6 : Int), 0))
 | m, k, 0, _, _, _, h, _ => by omega
 | m, k, f + 1, 0, _, _, _, h => by omega
 | 0, k, f + 1, f' + 1, hk1, hk, hf, hf' => by
  refine ⟨noAsk, none55 n hn s hl 0 k (f + 1) hk1 hk hf (fun j h1 h2 => by omega), ?_, .inl rfl⟩
  show F40_l2 n s (loopF (F40_l2 n s) f') ((2 * (k - 1) : Nat) : Int) = _
  unfold F40_l2
  simp only
  rw [decide_eq_false (show ¬ (((2 * (k - 1) : Nat) : Int)) < 28 by omega)]
  rfl
 | m + 1, k, f + 1, f' + 1, hk1, hk, hf, hf' => by
  obtain ⟨r, h1, h2, h3⟩ := ask_k n hn k (wd s 2) (wd s 4) (wd s 6) (by omega)
  have hlen := head_len ⟨k, by omega⟩ hk1
  have happ := app_eq s (headK k) hl hlen
  show ∃ q, F31_l2 n s (loopF (F31_l2 n s) f) (k : Int) = some q ∧ F40_l2 n s (loopF (F40_l2 n s) f') ((2 * (k - 1) : Nat) : Int) = some q ∧ (q = noAsk ∨ ∃ j : Nat, 1 ≤ j ∧ j ≤ 14 ∧ q = ((j : Int), (wd s 2 : Int), (wd s 4 : Int), (wd s 6 : Int), 0))
  rw [r55 n hn s hl k hk1 (by omega) _ r h1, r56 n hn s hl k hk1 (by omega) _ r h2]
  by_cases hP : s.take 2 = headK k
  ·rw [if_pos hP]
   rcases h3 with rfl | rfl
   ·rw [if_neg (by simp), if_pos (by simp)]
    refine ⟨noAsk, none55 n hn s hl m (k + 1) f (by omega) (by omega) (by omega) (fun j hj1 hj2 e => ?_), rfl, .inl rfl⟩
    have := head_one ⟨j, by omega⟩ ⟨k, by omega⟩ (by show 1 ≤ j; omega) hk1 (by rw [← e, ← hP])
    simp at this
    omega
   ·rw [if_pos ⟨rfl, by rw [rest_eq s hl]; rw [beq_iff_eq.2 hP] at happ; simpa using happ⟩, if_neg (by simp)]
    exact ⟨_, rfl, rfl, .inr ⟨k, hk1, by omega, rfl⟩⟩
  ·rw [if_neg hP, if_neg]
   ·exact read_same n hn s hl m (k + 1) f f' (by omega) (by omega) (by omega) (by omega)
   ·rintro ⟨h4, h5⟩
    rcases h3 with rfl | rfl
    ·cases h4
    ·rw [rest_eq s hl] at h5
     rw [show (headK k ++ s.drop 2 == s) = true by simpa using h5] at happ
     exact hP (by simpa using happ.symm)
theorem askS (n : Nat) (hn : 100 ≤ n) (s : List UInt8) : ∃ r, F31 n s = some r ∧ F40 n s = some r ∧ (r.2.2.2.2 ≠ 0 ∨ ∃ k v i l : Nat, 1 ≤ k ∧ k ≤ 14 ∧ v < 65536 ∧ i < 65536 ∧ l < 65536 ∧ r = ((k : Int), (v : Int), (i : Int), (l : Int), 0)) := by
 have wl : ∀ i, wd s i < 65536 := fun i => by
  have b0 := by_lt s i
  have b1 := by_lt s (i + 1)
  unfold wd; omega
 unfold F31 F40
 by_cases h1 : s.length = 8
 ·rw [decide_eq_false (show ¬ ((s.length : Nat) : Int) < 8 by omega), decide_eq_false (show ¬ ((s.length : Nat) : Int) > 8 by omega), show (((s.length : Nat) : Int) != 8) = false by simp [h1]]
  obtain ⟨r, e1, e2, e3⟩ := read_same n (by omega) s h1 14 1 n n (by omega) (by omega) (by omega) (by omega)
  refine ⟨r, e1, e2, ?_⟩
  rcases e3 with rfl | ⟨j, h2, h3, rfl⟩
  ·left; decide
  ·right; exact ⟨j, wd s 2, wd s 4, wd s 6, h2, h3, wl 2, wl 4, wl 6, rfl⟩
 ·rw [show (((s.length : Nat) : Int) != 8) = true by simp; omega]
  by_cases h2 : s.length < 8
  ·rw [decide_eq_true (show ((s.length : Nat) : Int) < 8 by omega)]
   exact ⟨_, rfl, rfl, .inl (by decide)⟩
  ·rw [decide_eq_false (show ¬ ((s.length : Nat) : Int) < 8 by omega), decide_eq_true (show ((s.length : Nat) : Int) > 8 by omega)]
   exact ⟨_, rfl, rfl, .inl (by decide)⟩
end Go.Proofs.YtghbnolfadnoaaaGreat.Sa
