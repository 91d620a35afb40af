/- The law GreetAsks, in plain Lean. -/
import Derived.Test.YtmcjcioifgaihaaFg
import Derived.Test.YtmcjcioifgaihaaAm26
namespace Go.Proofs.Ytmcjcioifgaihaa
open Go Go.RowKit
set_option linter.unusedVariables false

def betw (lo hi v : Int) : Bool := decide (lo ≤ v) && decide (v ≤ hi)
theorem betw_ok {lo hi v : Int} (h : betw lo hi v = true) : lo ≤ v ∧ v ≤ hi := by simpa [betw] using h
theorem s114 (n : Nat) (lo hi v : Int) : F172 n lo hi v = some (betw lo hi v) := by
  unfold F172 betw
  show (bif decide (lo ≤ v) then _ else _) = _
  cases decide (lo ≤ v) <;> rfl
theorem s16 (n : Nat) (lo hi v : Int) : F15 n v lo hi = some (betw lo hi v) := by
  unfold F15 betw
  cases decide (lo ≤ v) <;> rfl
theorem s82_0 (n : Nat) (v : Int) : F132 n 0 v = some (v == 0) := rfl
theorem s82_1 (n : Nat) (v : Int) : F132 n 1 v = some (betw 0 65535 v) := by simp [F132, s114]
theorem s82_2 (n : Nat) (v : Int) : F132 n 2 v = some (betw 0 255 v) := by simp [F132, s114]
theorem s82_3 (n : Nat) (v : Int) : F132 n 3 v = some (betw 0 15 v || betw 128 143 v) := by
  simp [F132, s114]
  cases betw 0 15 v <;> rfl
theorem s82_4 (n : Nat) (v : Int) : F132 n 4 v = some (betw 0 127 v) := by simp [F132, s114]
theorem s82_5 (n : Nat) (v : Int) : F132 n 5 v = some (betw 1 15 v) := by simp [F132, s114]
theorem s82_6 (n : Nat) (v : Int) : F132 n 6 v = some (betw 0 31 v) := by simp [F132, s114]
theorem s82_7 (n : Nat) (v : Int) : F132 n 7 v = some (v == 512) := rfl
/-- two bytes, the low one first -/
def tb (v : Int) : List UInt8 := strOf [IntKind.wrap .u8 v, IntKind.wrap .u8 (shrI .i64 v 8)]
theorem s73 (n : Nat) (v : Int) (h0 : 0 ≤ v) (h1 : v ≤ 65535) : F65 n v = some (tb v) := by
  unfold F65 tb strOf
  simp only [List.map_cons, List.map_nil, Option.some.injEq, List.cons.injEq, and_true]
  have e1 : v.tmod 256 = v % 256 := Int.tmod_eq_emod_of_nonneg h0
  have e2 : v.tdiv 256 = v / 256 := Int.tdiv_eq_ediv_of_nonneg h0
  have e3 : shrI .i64 v 8 = v / 256 := shr_div .i64 v 8 (by decide)
  rw [e1, e2, e3, w64 (by omega) (by omega), Int.tmod_eq_emod_of_nonneg (by omega)]
  simp only [u8w]
  constructor <;> apply u8_same <;> omega
theorem l6 (n m : Nat) (v i l : Int) (b : Bool) (x y : Int) (hm : 4 ≤ m) : loopF (F56_l6 n v i l b) m (0, [x, y]) = some (strOf [x, y] ++ (tb v ++ (tb i ++ tb l)), 0) := by
  obtain ⟨m, rfl⟩ : ∃ m', m = m' + 4 := ⟨m - 4, by omega⟩
  rfl
/-- what is asked, by what is allowed -/
def ans (h : List UInt8) (V I L : Bool) (v i l : Int) : List UInt8 × Int := if V && (I && L) then (h ++ (tb v ++ (tb i ++ tb l)), 0) else ([], 1)
theorem s29 (n : Nat) (hn : 4 ≤ n) (k v i l h1 h2 wv wi len : Int) (V I : Bool) (hr : F131 n k = some (h1, h2, wv, wi, len, true)) (hV : F132 n wv v = some V) (hI : F132 n wi i = some I) :
    F56 n k v i l = some (ans (strOf [h1, h2]) V I (l == len || (decide (len < 0) && betw 0 65535 l)) v i l) := by
  have j : ∀ L : Bool, F56_j4 n v i l (h1, h2, wv, wi, len, true) L = some (ans (strOf [h1, h2]) V I L v i l) := by
    intro L
    unfold F56_j4 ans
    simp only [hV, hI, Option.bind_some, Bool.not_true, cond_false]
    cases V <;> cases I <;> cases L <;> simp only [Bool.not_true, Bool.not_false, cond_true, cond_false, F56_j5, Bool.and_true, Bool.and_false, if_true, if_false, Bool.false_eq_true]
    exact l6 n n v i l true h1 h2 hn
  unfold F56
  rw [hr]
  simp only [Option.bind_some, j, s82_1]
  cases l == len
  · cases decide (len < 0) <;> rfl
  · rfl
def heads : List UInt8 := [128, 0, 2, 1, 2, 3, 0, 5, 128, 6, 0, 9, 128, 8, 163, 0, 35, 3, 35, 1, 33, 255, 161, 254, 33, 10, 33, 9]
theorem tb_len (v : Int) : (tb v).length = 2 := rfl
theorem s30 (n : Nat) (k v i l : Int) (h : List UInt8) (V I L : Bool) (hk : betw 1 14 k = true) (hV : F133 n k v = some V) (hI : F134 n k i = some I) (hL : F135 n k l = some L)
    (hs : subB heads.length (some (IntKind.wrap .i64 ((IntKind.wrap .i64 (2 * k)) - 2))) (some (IntKind.wrap .i64 (2 * k))) = true) (hh : (heads.take (IntKind.wrap .i64 (2 * k)).toNat).drop (IntKind.wrap .i64 ((IntKind.wrap .i64 (2 * k)) - 2)).toNat = h) (hl : h.length ≤ 2)
    (rV : V = true → 0 ≤ v ∧ v ≤ 65535) (rI : I = true → 0 ≤ i ∧ i ≤ 65535) (rL : L = true → 0 ≤ l ∧ l ≤ 65535) : F57 n k v i l = some (ans h V I L v i l) := by
  unfold F57
  rw [s16, hk, hV, hI, hL]
  simp only [Option.bind_some, Bool.not_true, cond_false]
  have jt : F57_j2 n k v i l true = some ([], 1) := rfl
  cases V
  · simp only [Bool.not_false, cond_true, jt]; rfl
  cases I
  · simp only [Bool.not_false, Bool.not_true, cond_false, cond_true, jt]; rfl
  cases L
  · simp only [Bool.not_false, Bool.not_true, cond_false, jt]; rfl
  simp only [Bool.not_true, cond_false]
  have := rV rfl
  have := rI rfl
  have := rL rfl
  have e1 := s73 n v (by omega) (by omega)
  have e2 := s73 n i (by omega) (by omega)
  have e3 := s73 n l (by omega) (by omega)
  have hs' : subB ([128, 0, 2, 1, 2, 3, 0, 5, 128, 6, 0, 9, 128, 8, 163, 0, 35, 3, 35, 1, 33, 255, 161, 254, 33, 10, 33, 9] : List UInt8).length (some (IntKind.wrap .i64 ((IntKind.wrap .i64 (2 * k)) - 2))) (some (IntKind.wrap .i64 (2 * k))) = true := hs
  have hh' : (([128, 0, 2, 1, 2, 3, 0, 5, 128, 6, 0, 9, 128, 8, 163, 0, 35, 3, 35, 1, 33, 255, 161, 254, 33, 10, 33, 9] : List UInt8).take (IntKind.wrap .i64 (2 * k)).toNat).drop (IntKind.wrap .i64 ((IntKind.wrap .i64 (2 * k)) - 2)).toNat = h := hh
  unfold F57_j2
  simp only [cond_false, e1, e2, e3, Option.bind_some, hs', hh', cond_true]
  rw [decide_eq_true (show h.length + (tb v).length ≤ 9223372036854775807 by rw [tb_len]; omega), decide_eq_true (show (h ++ tb v).length + (tb i).length ≤ 9223372036854775807 by rw [List.length_append, tb_len, tb_len]; omega), decide_eq_true (show (h ++ tb v ++ tb i).length + (tb l).length ≤ 9223372036854775807 by rw [List.length_append, List.length_append, tb_len, tb_len, tb_len]; omega)]
  simp [ans]
theorem kinds (k : Int) : k = 1 ∨ k = 2 ∨ k = 3 ∨ k = 4 ∨ k = 5 ∨ k = 6 ∨ k = 7 ∨ k = 8 ∨ k = 9 ∨ k = 10 ∨ k = 11 ∨ k = 12 ∨ k = 13 ∨ k = 14 ∨ ¬ (1 ≤ k ∧ k ≤ 14) := by omega
theorem eq0 {v c : Int} (h : (v == c) = true) (h0 : 0 ≤ c) (h1 : c ≤ 65535) : 0 ≤ v ∧ v ≤ 65535 := by
  have : v = c := by simpa using h
  omega
theorem btw0 {lo hi v : Int} (h : betw lo hi v = true) (h0 : 0 ≤ lo) (h1 : hi ≤ 65535) : 0 ≤ v ∧ v ≤ 65535 := by
  have := betw_ok h
  omega
theorem btw2 {a b c d v : Int} (h : (betw a b v || betw c d v) = true) (h0 : 0 ≤ a) (h1 : b ≤ 65535) (h2 : 0 ≤ c) (h3 : d ≤ 65535) : 0 ≤ v ∧ v ≤ 65535 := by
  rw [Bool.or_eq_true] at h
  rcases h with h | h
  · exact btw0 h h0 h1
  · exact btw0 h h2 h3
/-- the two bytes of a kind -/
def headK (k : Int) : List UInt8 := (heads.take (2 * k).toNat).drop (2 * k - 2).toNat
theorem len1 (l c : Int) (h : (decide (c < 0)) = false) : (l == c || (decide (c < 0) && betw 0 65535 l)) = (l == c) := by rw [h]; simp
theorem g130 (n : Nat) (st tr ad mx tot u c s p m v r l k a z q cv cn ca cp : Int) (fs : List (Int × Int × Int × Int × (List (List UInt8)) × List (Int × Bool × Int × Int × Int))) (sr : List UInt8) (er : Int) :
    F130 n st tr ad mx tot u c s p m v r l k a z q cv cn ca cp fs sr er = some (betw 1 9 st && (betw 0 2 tr && (betw 1 127 ad && (betw 0 512 tot && (betw 0 255 z && betw 0 255 cv))))) := by
  have f : ∀ lo hi x : Int, F171 n x lo hi = some (betw lo hi x) := by
    intro lo hi x
    unfold F171 betw
    show (bif decide (lo ≤ x) then _ else _) = _
    cases decide (lo ≤ x) <;> rfl
  unfold F130
  simp only [f, Option.bind_some]
  cases betw 1 9 st <;> cases betw 0 2 tr <;> cases betw 1 127 ad <;> cases betw 0 512 tot <;> cases betw 0 255 z <;> rfl
theorem g17 (n : Nat) (st tr ad mx tot u c s p m v r l k a z q cv cn ca cp : Int) (fs : List (Int × Int × Int × Int × (List (List UInt8)) × List (Int × Bool × Int × Int × Int))) (sr : List UInt8) (er : Int) :
    F17 n st tr ad mx tot u c s p m v r l k a z q cv cn ca cp fs sr er = some (betw 1 9 st && (betw 0 2 tr && (betw 1 127 ad && (betw 0 512 tot && (betw 0 255 z && betw 0 255 cv))))) := by
  unfold F17
  simp only [s16, Option.bind_some]
  cases betw 1 9 st <;> cases betw 0 2 tr <;> cases betw 1 127 ad <;> cases betw 0 512 tot <;> cases betw 0 255 z <;> rfl
def out (h : List UInt8) (v i l : Int) : List UInt8 := h ++ (tb v ++ (tb i ++ tb l))
theorem bt {lo hi v : Int} (h1 : lo ≤ v) (h2 : v ≤ hi) : betw lo hi v = true := by
  unfold betw
  rw [decide_eq_true h1, decide_eq_true h2]; rfl
theorem ask5 (n : Nat) (hn : 4 ≤ n) (v l : Int) (v0 : 0 ≤ v) (v1 : v ≤ 65535) (l0 : 0 ≤ l) (l1 : l ≤ 65535) : F56 n 5 v 0 l = some (out (headK 5) v 0 l, 0) ∧ F57 n 5 v 0 l = some (out (headK 5) v 0 l, 0) := by
  constructor
  · have e : (l == (-1 : Int) || (decide ((-1 : Int) < 0) && betw 0 65535 l)) = betw 0 65535 l := by
      have : (l == (-1 : Int)) = false := by rw [beq_eq_false_iff_ne]; omega
      rw [this]; rfl
    rw [s29 n hn 5 v 0 l _ _ _ _ _ _ _ rfl (s82_1 n v) (s82_1 n 0), e, bt v0 v1, bt l0 l1]; rfl
  · rw [s30 n 5 v 0 l (headK 5) (betw 0 65535 v) (betw 0 65535 0) (betw 0 65535 l) rfl (by simp [F133, F133_j3, F133_j4, s16]) (by simp [F134, s16, betw]) (by simp [F135, s16]) rfl rfl (by decide) (fun h => btw0 h (by omega) (by omega)) (fun h => btw0 h (by omega) (by omega)) (fun h => btw0 h (by omega) (by omega)), bt v0 v1, bt l0 l1]; rfl
theorem ask4 (n : Nat) (hn : 4 ≤ n) (v : Int) (v0 : 0 ≤ v) (v1 : v ≤ 127) : F56 n 4 v 0 0 = some (out (headK 4) v 0 0, 0) ∧ F57 n 4 v 0 0 = some (out (headK 4) v 0 0, 0) := by
  constructor
  · rw [s29 n hn 4 v 0 0 _ _ _ _ _ _ _ rfl (s82_4 n v) (s82_0 n 0), len1 0 _ rfl, bt v0 v1]; rfl
  · rw [s30 n 4 v 0 0 (headK 4) (betw 0 127 v) ((0 : Int) == 0) ((0 : Int) == 0) rfl (by simp [F133, F133_j3, F133_j4, s16]) (by simp [F134, s16, betw]) rfl rfl rfl (by decide) (fun h => btw0 h (by omega) (by omega)) (fun h => eq0 h (by omega) (by omega)) (fun h => eq0 h (by omega) (by omega)), bt v0 v1]; rfl
theorem ask6 (n : Nat) (hn : 4 ≤ n) (v : Int) (v0 : 0 ≤ v) (v1 : v ≤ 255) : F56 n 6 v 0 0 = some (out (headK 6) v 0 0, 0) ∧ F57 n 6 v 0 0 = some (out (headK 6) v 0 0, 0) := by
  constructor
  · rw [s29 n hn 6 v 0 0 _ _ _ _ _ _ _ rfl (s82_2 n v) (s82_0 n 0), len1 0 _ rfl, bt v0 v1]; rfl
  · rw [s30 n 6 v 0 0 (headK 6) (betw 0 255 v) ((0 : Int) == 0) ((0 : Int) == 0) rfl (by simp [F133, F133_j3, F133_j4, s16]) (by simp [F134, s16, betw]) rfl rfl rfl (by decide) (fun h => btw0 h (by omega) (by omega)) (fun h => eq0 h (by omega) (by omega)) (fun h => eq0 h (by omega) (by omega)), bt v0 v1]; rfl
section
variable (st tr ad mx tot u c s p m v r l k a z q cv cn ca cp : Int) (fs : List (Int × Int × Int × Int × (List (List UInt8)) × List (Int × Bool × Int × Int × Int))) (sr : List UInt8) (er : Int)
/-- what is asked, and what the law makes of the document's -/
theorem next_same : ∃ x : List UInt8 × Int, F16 100 st tr ad mx tot u c s p m v r l k a z q cv cn ca cp fs sr er = some x ∧
    (∃ y, F17 100 st tr ad mx tot u c s p m v r l k a z q cv cn ca cp fs sr er = some y ∧ ((y = false ∧ x = ([], 1)) ∨ (y = true ∧ ∃ w : List UInt8 × Bool, F18 100 st tr ad mx tot u c s p m v r l k a z q cv cn ca cp fs sr er = some w ∧ x.1 = w.1 ∧ x.2 = if w.2 then 0 else 12))) := by
  unfold F16 F55
  rw [g130, g17]
  simp only [Option.bind_some]
  cases hv : (betw 1 9 st && (betw 0 2 tr && (betw 1 127 ad && (betw 0 512 tot && (betw 0 255 z && betw 0 255 cv)))))
  · exact ⟨([], 1), rfl, false, rfl, .inl ⟨rfl, rfl⟩⟩
  simp only [Bool.and_eq_true] at hv
  obtain ⟨h1, h2, h3, h4, h5, h6⟩ := hv
  replace h1 := betw_ok h1
  replace h3 := betw_ok h3
  replace h4 := betw_ok h4
  replace h5 := betw_ok h5
  replace h6 := betw_ok h6
  simp only [Bool.not_true, cond_false]
  by_cases h8 : st ≥ 8
  · rw [decide_eq_true h8]
    refine ⟨([], 12), rfl, true, rfl, .inr ⟨rfl, ([], false), ?_, rfl, rfl⟩⟩
    unfold F18
    show (bif decide (st ≥ 8) then _ else _) = _
    rw [decide_eq_true h8]; rfl
  rw [decide_eq_false h8]
  have hw : IntKind.wrap .i64 (768 + z) = 768 + z := w64 (by omega) (by omega)
  simp only [cond_false, Option.bind_some, bne_self_eq_false, hw]
  have hst : st = 1 ∨ st = 2 ∨ st = 3 ∨ st = 4 ∨ st = 5 ∨ st = 6 ∨ st = 7 := by omega
  rcases hst with rfl | rfl | rfl | rfl | rfl | rfl | rfl
  · obtain ⟨e1, e2⟩ := ask5 100 (by omega) 256 8 (by omega) (by omega) (by omega) (by omega)
    refine ⟨(out (headK 5) 256 0 8, 0), ?_, true, rfl, .inr ⟨rfl, (out (headK 5) 256 0 8, true), ?_, rfl, rfl⟩⟩
    · show ((F56 100 5 256 0 8).bind fun y => some (y.1, y.2)) = _
      rw [e1]; rfl
    · show ((F57 100 5 256 0 8).bind fun y => some (y.1, true)) = _
      rw [e2]; rfl
  · obtain ⟨e1, e2⟩ := ask4 100 (by omega) ad (by omega) (by omega)
    refine ⟨(out (headK 4) ad 0 0, 0), ?_, true, rfl, .inr ⟨rfl, (out (headK 4) ad 0 0, true), ?_, rfl, rfl⟩⟩
    · show ((F56 100 4 ad 0 0).bind fun y => some (y.1, y.2)) = _
      rw [e1]; rfl
    · show ((F57 100 4 ad 0 0).bind fun y => some (y.1, true)) = _
      rw [e2]; rfl
  · obtain ⟨e1, e2⟩ := ask5 100 (by omega) 256 18 (by omega) (by omega) (by omega) (by omega)
    refine ⟨(out (headK 5) 256 0 18, 0), ?_, true, rfl, .inr ⟨rfl, (out (headK 5) 256 0 18, true), ?_, rfl, rfl⟩⟩
    · show ((F56 100 5 256 0 18).bind fun y => some (y.1, y.2)) = _
      rw [e1]; rfl
    · show ((F57 100 5 256 0 18).bind fun y => some (y.1, true)) = _
      rw [e2]; rfl
  · obtain ⟨e1, e2⟩ := ask5 100 (by omega) 512 9 (by omega) (by omega) (by omega) (by omega)
    refine ⟨(out (headK 5) 512 0 9, 0), ?_, true, rfl, .inr ⟨rfl, (out (headK 5) 512 0 9, true), ?_, rfl, rfl⟩⟩
    · show ((F56 100 5 512 0 9).bind fun y => some (y.1, y.2)) = _
      rw [e1]; rfl
    · show ((F57 100 5 512 0 9).bind fun y => some (y.1, true)) = _
      rw [e2]; rfl
  · obtain ⟨e1, e2⟩ := ask5 100 (by omega) 512 tot (by omega) (by omega) (by omega) (by omega)
    refine ⟨(out (headK 5) 512 0 tot, 0), ?_, true, rfl, .inr ⟨rfl, (out (headK 5) 512 0 tot, true), ?_, rfl, rfl⟩⟩
    · show ((F56 100 5 512 0 tot).bind fun y => some (y.1, y.2)) = _
      rw [e1]; rfl
    · show ((F57 100 5 512 0 tot).bind fun y => some (y.1, true)) = _
      rw [e2]; rfl
  · obtain ⟨e1, e2⟩ := ask5 100 (by omega) (768 + z) 255 (by omega) (by omega) (by omega) (by omega)
    refine ⟨(out (headK 5) (768 + z) 0 255, 0), ?_, true, rfl, .inr ⟨rfl, (out (headK 5) (768 + z) 0 255, true), ?_, rfl, rfl⟩⟩
    · show ((F56 100 5 (768 + z) 0 255).bind fun y => some (y.1, y.2)) = _
      rw [e1]; rfl
    · show ((F57 100 5 (IntKind.wrap .i64 (768 + z)) 0 255).bind fun y => some (y.1, true)) = _
      rw [hw, e2]; rfl
  · obtain ⟨e1, e2⟩ := ask6 100 (by omega) cv (by omega) (by omega)
    refine ⟨(out (headK 6) cv 0 0, 0), ?_, true, rfl, .inr ⟨rfl, (out (headK 6) cv 0 0, true), ?_, rfl, rfl⟩⟩
    · show ((F56 100 6 cv 0 0).bind fun y => some (y.1, y.2)) = _
      rw [e1]; rfl
    · show ((F57 100 6 cv 0 0).bind fun y => some (y.1, true)) = _
      rw [e2]; rfl
end
/-- New's answer is what is wanted -/
theorem same0 (n : Nat) (hn : 4 ≤ n) (x y : Int) : F19 n x 0 y 0 0 0 0 0 0 0 0 0 0 0 0 0 0 0 0 0 0 [] [] 0 x 0 y 0 0 0 0 0 0 0 0 0 0 0 0 0 0 0 0 0 0 [] [] 0 = some true := by
  obtain ⟨m, rfl⟩ : ∃ m, n = m + 4 := ⟨n - 4, by omega⟩
  unfold F19
  simp only [beq_self_eq_true, cond_true]
  rfl
theorem j6_bad (t : List UInt8) (c : Int) : F3_j6 100 (0, 0, 0, 0, 0, 0, 0, 0, 0, 0, 0, 0, 0, 0, 0, 0, 0, 0, 0, 0, 0, [], 0, 1) 0 0 (t, c) t c = some true := by
  unfold F3_j6
  rw [same0 100 (by omega)]
  simp
theorem j6_good (ad : Int) (t : List UInt8) (c : Int) : F3_j6 100 (1, 0, ad, 0, 0, 0, 0, 0, 0, 0, 0, 0, 0, 0, 0, 0, 0, 0, 0, 0, 0, [], 0, 0) 1 ad (t, c) t c = some true := by
  unfold F3_j6
  rw [same0 100 (by omega)]
  simp
theorem j4 (st tr ad mx tot u c s p m v r l k a z q cv cn ca cp : Int) (fs : List (Int × Int × Int × Int × (List (List UInt8)) × List (Int × Bool × Int × Int × Int))) (sr : List UInt8) (er : Int) (y : Int × Int × Int × Int × Int × Int × Int × Int × Int × Int × Int × Int × Int × Int × Int × Int × Int × Int × Int × Int × Int × (List UInt8) × Int × Int) (m1 m2 : Int)
    (hy : ∀ t c, F3_j6 100 y m1 m2 (t, c) t c = some true) : F3_j4 100 st tr ad mx tot u c s p m v r l k a z q cv cn ca cp fs sr er y (m1, m2) = some true := by
  obtain ⟨x, e1, b, e2, h⟩ := next_same st tr ad mx tot u c s p m v r l k a z q cv cn ca cp fs sr er
  unfold F3_j4
  rw [e1, e2]
  rcases h with ⟨rfl, rfl⟩ | ⟨rfl, ⟨w1, w2⟩, e3, h1, h2⟩
  · exact hy [] 1
  · obtain ⟨x1, x2⟩ := x
    simp only at h1 h2
    subst h1 h2
    simp only [Option.bind_some, cond_true, e3]
    cases w2
    · exact hy _ _
    · exact hy _ _
theorem greetAll (addr st tr ad mx tot u c s p m v r l k a z q cv cn ca cp : Int) (fs : List (Int × Int × Int × Int × (List (List UInt8)) × List (Int × Bool × Int × Int × Int))) (sr : List UInt8) (er : Int) : F3 100 addr st tr ad mx tot u c s p m v r l k a z q cv cn ca cp fs sr er = some true := by
  unfold F3 F14
  rw [s16]
  by_cases h1 : addr < 1
  · have : betw 1 127 addr = false := by
      unfold betw
      rw [decide_eq_false (by omega)]; rfl
    rw [decide_eq_true h1, this]
    exact j4 _ _ _ _ _ _ _ _ _ _ _ _ _ _ _ _ _ _ _ _ _ _ _ _ _ _ _ j6_bad
  by_cases h2 : addr > 127
  · have : betw 1 127 addr = false := by
      unfold betw
      rw [decide_eq_false (show ¬ addr ≤ 127 by omega), Bool.and_false]
    rw [decide_eq_false h1, decide_eq_true h2, this]
    exact j4 _ _ _ _ _ _ _ _ _ _ _ _ _ _ _ _ _ _ _ _ _ _ _ _ _ _ _ j6_bad
  · rw [decide_eq_false h1, decide_eq_false h2, bt (by omega) (by omega)]
    exact j4 _ _ _ _ _ _ _ _ _ _ _ _ _ _ _ _ _ _ _ _ _ _ _ _ _ _ _ (j6_good addr)
theorem greetAsks_says (a0 : Sh.T ((.int .i64))) (g0 : Sh.good ((.int .i64)) a0) (a1 : Sh.T ((.st (.pair (.int .i64) (.pair (.int .i64) (.pair (.int .i64) (.pair (.int .i64) (.pair (.int .i64) (.pair (.st (.pair (.int .i64) (.pair (.int .i64) (.pair (.int .i64) (.pair (.int .i64) (.pair (.int .i64) (.pair (.int .i64) (.pair (.int .i64) (.pair (.int .i64) (.pair (.int .i64) (.pair (.int .i64) (.pair (.int .i64) (.int .i64))))))))))))) (.pair (.st (.pair (.int .i64) (.pair (.int .i64) (.pair (.int .i64) (.pair (.int .i64) (.sl (.st (.pair (.int .i64) (.pair (.int .i64) (.pair (.int .i64) (.pair (.int .i64) (.pair (.sl .str) (.sl (.st (.pair (.int .i64) (.pair .bool (.pair (.int .i64) (.pair (.int .i64) (.int .i64))))))))))))))))))) (.pair .str (.int .i64)))))))))))) (g1 : Sh.good ((.st (.pair (.int .i64) (.pair (.int .i64) (.pair (.int .i64) (.pair (.int .i64) (.pair (.int .i64) (.pair (.st (.pair (.int .i64) (.pair (.int .i64) (.pair (.int .i64) (.pair (.int .i64) (.pair (.int .i64) (.pair (.int .i64) (.pair (.int .i64) (.pair (.int .i64) (.pair (.int .i64) (.pair (.int .i64) (.pair (.int .i64) (.int .i64))))))))))))) (.pair (.st (.pair (.int .i64) (.pair (.int .i64) (.pair (.int .i64) (.pair (.int .i64) (.sl (.st (.pair (.int .i64) (.pair (.int .i64) (.pair (.int .i64) (.pair (.int .i64) (.pair (.sl .str) (.sl (.st (.pair (.int .i64) (.pair .bool (.pair (.int .i64) (.pair (.int .i64) (.int .i64))))))))))))))))))) (.pair .str (.int .i64))))))))))) a1) :
    ∃ n, F3 n a0 a1.1 a1.2.1 a1.2.2.1 a1.2.2.2.1 a1.2.2.2.2.1 a1.2.2.2.2.2.1.1 a1.2.2.2.2.2.1.2.1 a1.2.2.2.2.2.1.2.2.1 a1.2.2.2.2.2.1.2.2.2.1 a1.2.2.2.2.2.1.2.2.2.2.1 a1.2.2.2.2.2.1.2.2.2.2.2.1 a1.2.2.2.2.2.1.2.2.2.2.2.2.1 a1.2.2.2.2.2.1.2.2.2.2.2.2.2.1 a1.2.2.2.2.2.1.2.2.2.2.2.2.2.2.1 a1.2.2.2.2.2.1.2.2.2.2.2.2.2.2.2.1 a1.2.2.2.2.2.1.2.2.2.2.2.2.2.2.2.2.1 a1.2.2.2.2.2.1.2.2.2.2.2.2.2.2.2.2.2 a1.2.2.2.2.2.2.1.1 a1.2.2.2.2.2.2.1.2.1 a1.2.2.2.2.2.2.1.2.2.1 a1.2.2.2.2.2.2.1.2.2.2.1 a1.2.2.2.2.2.2.1.2.2.2.2 a1.2.2.2.2.2.2.2.1 a1.2.2.2.2.2.2.2.2 = some true := ⟨100, greetAll a0 a1.1 a1.2.1 a1.2.2.1 a1.2.2.2.1 a1.2.2.2.2.1 a1.2.2.2.2.2.1.1 a1.2.2.2.2.2.1.2.1 a1.2.2.2.2.2.1.2.2.1 a1.2.2.2.2.2.1.2.2.2.1 a1.2.2.2.2.2.1.2.2.2.2.1 a1.2.2.2.2.2.1.2.2.2.2.2.1 a1.2.2.2.2.2.1.2.2.2.2.2.2.1 a1.2.2.2.2.2.1.2.2.2.2.2.2.2.1 a1.2.2.2.2.2.1.2.2.2.2.2.2.2.2.1 a1.2.2.2.2.2.1.2.2.2.2.2.2.2.2.2.1 a1.2.2.2.2.2.1.2.2.2.2.2.2.2.2.2.2.1 a1.2.2.2.2.2.1.2.2.2.2.2.2.2.2.2.2.2 a1.2.2.2.2.2.2.1.1 a1.2.2.2.2.2.2.1.2.1 a1.2.2.2.2.2.2.1.2.2.1 a1.2.2.2.2.2.2.1.2.2.2.1 a1.2.2.2.2.2.2.1.2.2.2.2 a1.2.2.2.2.2.2.2.1 a1.2.2.2.2.2.2.2.2⟩
end Go.Proofs.Ytmcjcioifgaihaa
