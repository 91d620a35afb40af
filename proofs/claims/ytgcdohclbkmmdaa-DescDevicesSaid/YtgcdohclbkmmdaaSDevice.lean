/- The law DescDevices, in plain Lean. -/
import Derived.Test.YtgcdohclbkmmdaaFd
import Derived.Test.YtgcdohclbkmmdaaAm26
namespace Go.Proofs.Ytgcdohclbkmmdaa
open Go Go.RowKit
open Classical
set_option linter.unusedVariables false

def rg (lo hi v : Int) : Prop := lo ≤ v ∧ v ≤ hi
instance (lo hi v : Int) : Decidable (rg lo hi v) := inferInstanceAs (Decidable (lo ≤ v ∧ v ≤ hi))
def allR (most : Int) (l : List Int) : Bool := l.all fun x => decide (0 ≤ x) && decide (x ≤ most)
theorem drop_at (l : List Int) (k : Nat) (h : k < l.length) : l.drop k = l.getD k 0 :: l.drop (k + 1) := by
  rw [List.drop_eq_getElem_cons h]
  simp [List.getD_eq_getElem?_getD, List.getElem?_eq_getElem h]
theorem v68 (n : Nat) (hn : 100 < n) (most : Int) (l : List Int) (hl : l.length ≤ 50) : F68 n most l = some (allR most l) := by
  unfold F68
  refine loopF_eq (F68_l2 n most l) (fun x => some (allR most (l.drop x.toNat))) (fun x => ∃ k : Nat, x = (k : Int) ∧ k ≤ l.length) (fun x => l.length - x.toNat) ?_ n 0 ⟨0, rfl, by omega⟩ (by simp; omega)
  rintro kk x ⟨k, rfl, hk⟩ ih
  simp only [F68_l2, Int.toNat_natCast]
  by_cases hka : k < l.length
  · rw [decide_eq_true (show (k : Int) < (l.length : Int) by omega), inb_true (show (0 : Int) ≤ k by omega) (show (k : Int) < l.length by omega), drop_at l k hka, w64 (n := (k : Int) + 1) (by omega) (by omega)]
    simp only [cond_true]
    unfold allR
    rw [List.all_cons]
    by_cases h1 : l.getD k 0 < 0
    · rw [decide_eq_true h1, decide_eq_false (show ¬ 0 ≤ l.getD k 0 by omega)]; rfl
    · rw [decide_eq_false h1, decide_eq_true (show 0 ≤ l.getD k 0 by omega)]
      by_cases h2 : l.getD k 0 > most
      · rw [decide_eq_true h2, decide_eq_false (show ¬ l.getD k 0 ≤ most by omega)]; rfl
      · rw [decide_eq_false h2, decide_eq_true (show l.getD k 0 ≤ most by omega)]
        simp only [cond_false]
        have := ih ((k : Int) + 1) ⟨k + 1, by omega, by omega⟩ (by simp only [Int.toNat_natCast]; omega)
        rw [this, show ((k : Int) + 1).toNat = k + 1 by omega]; rfl
  · rw [decide_eq_false (show ¬ (k : Int) < (l.length : Int) by omega), List.drop_of_length_le (by omega)]; rfl
def wr8 (l : List Int) : List Int := l.map (IntKind.wrap .u8)
theorem v71 (n : Nat) (hn : 100 < n) (l : List Int) (hl : l.length ≤ 50) : F71 n l = some (if allR 255 l then (strOf (wr8 l), true) else ([], false)) := by
  unfold F71
  have main := loopF_eq (F71_l2 n l) (fun d => some (if allR 255 (l.drop d.1.toNat) then (strOf (d.2 ++ wr8 (l.drop d.1.toNat)), true) else ([], false))) (fun d => ∃ k : Nat, d.1 = (k : Int) ∧ k ≤ l.length ∧ d.2.length ≤ k) (fun d => l.length - d.1.toNat) ?_ n (0, []) ⟨0, rfl, by omega, by simp⟩ (by simp; omega)
  · rw [main]; rfl
  rintro kk ⟨x, m⟩ ⟨k, rfl, hk, hm⟩ ih
  simp only at hm
  simp only [F71_l2, Int.toNat_natCast]
  by_cases hka : k < l.length
  · rw [decide_eq_true (show (k : Int) < (l.length : Int) by omega), inb_true (show (0 : Int) ≤ k by omega) (show (k : Int) < l.length by omega), drop_at l k hka, w64 (n := (k : Int) + 1) (by omega) (by omega), decide_eq_true (show m.length + [IntKind.wrap .u8 (l.getD k 0)].length ≤ 17179869184 by simp; omega)]
    simp only [cond_true]
    unfold F16 allR
    rw [List.all_cons]
    by_cases h1 : 0 ≤ l.getD k 0
    · rw [decide_eq_true h1]
      by_cases h2 : l.getD k 0 ≤ 255
      · rw [decide_eq_true h2]
        simp only [cond_true, Option.bind_some, Bool.not_true, cond_false, Bool.true_and]
        have := ih ((k : Int) + 1, m ++ [IntKind.wrap .u8 (l.getD k 0)]) ⟨k + 1, by simp, by omega, by simp; omega⟩ (by simp only [Int.toNat_natCast]; omega)
        rw [this]
        simp only
        rw [show ((k : Int) + 1).toNat = k + 1 by omega, List.append_assoc]; rfl
      · rw [decide_eq_false h2]; rfl
    · rw [decide_eq_false h1]; rfl
  · rw [decide_eq_false (show ¬ (k : Int) < (l.length : Int) by omega), List.drop_of_length_le (by omega)]
    simp [allR, wr8]
/-- two bytes, the low one first -/
def tb (v : Int) : List UInt8 := strOf [IntKind.wrap .u8 v, IntKind.wrap .u8 (shrI .i64 v 8)]
theorem v73 (n : Nat) (v : Int) (h : rg 0 65535 v) : F73 n v = some (tb v) := by
  obtain ⟨h0, h1⟩ := h
  unfold F73 tb strOf
  simp only [List.map_cons, List.map_nil, Option.some.injEq, List.cons.injEq, and_true]
  have e1 : v.tmod 256 = v % 256 := Int.tmod_eq_emod_of_nonneg h0
  have e2 : v.tdiv 256 = v / 256 := Int.tdiv_eq_ediv_of_nonneg h0
  have e3 : shrI .i64 v 8 = v / 256 := shr_div .i64 v 8 (by decide)
  rw [e1, e2, e3, w64 (by omega) (by omega), Int.tmod_eq_emod_of_nonneg (by omega)]
  simp only [u8w]
  constructor <;> apply u8_same <;> omega
theorem v70 (v : Int) : F70 200 v = some (tb v) := rfl
theorem v69_2 (a b : Int) : F69 200 [a, b] = some (strOf (wr8 [a, b])) := rfl
theorem v69_4 (a b c d : Int) : F69 200 [a, b, c, d] = some (strOf (wr8 [a, b, c, d])) := rfl
structure Dev where
  (u c s p m v r l k a z g : Int)
def setB (m : Int) : Prop := m = 8 ∨ m = 16 ∨ m = 32 ∨ m = 64
def devOk (u c s p m v r l k a z g : Int) : Prop := setB m ∧ (rg 0 255 c ∧ rg 0 255 s ∧ rg 0 255 p ∧ rg 0 255 k ∧ rg 0 255 a ∧ rg 0 255 z) ∧ (rg 0 65535 u ∧ rg 0 65535 v ∧ rg 0 65535 r ∧ rg 0 65535 l) ∧ rg 1 255 g
def txt (u c s p m v r l k a z g : Int) : List UInt8 := strOf (wr8 [18, 1]) ++ tb u ++ strOf (wr8 [c, s, p, m]) ++ tb v ++ tb r ++ tb l ++ strOf (wr8 [k, a, z, g])
noncomputable def devR (u c s p m v r l k a z g : Int) : List UInt8 × Int := if devOk u c s p m v r l k a z g then (txt u c s p m v r l k a z g, 0) else ([], 1)
theorem len_tb (v : Int) : (tb v).length = 2 := rfl
theorem len_p2 (a b : Int) : (strOf (wr8 [a, b])).length = 2 := rfl
theorem len_p4 (a b c d : Int) : (strOf (wr8 [a, b, c, d])).length = 4 := rfl
theorem all6 (a b c d e f : Int) : allR 255 [a, b, c, d, e, f] = true ↔ (rg 0 255 a ∧ rg 0 255 b ∧ rg 0 255 c ∧ rg 0 255 d ∧ rg 0 255 e ∧ rg 0 255 f) := by
  simp [allR, rg]
theorem all4 (most a b c d : Int) : allR most [a, b, c, d] = true ↔ (rg 0 most a ∧ rg 0 most b ∧ rg 0 most c ∧ rg 0 most d) := by
  simp [allR, rg]
section
variable (u c s p m v r l k a z g : Int)
theorem v18j4 : F18_j4 200 u c s p m v r l k a z g false = some (txt u c s p m v r l k a z g, 0) := by
  unfold F18_j4
  simp only [cond_false, v69_2, v69_4, v70, Option.bind_some, List.length_append, len_tb, len_p2, len_p4]
  rfl
theorem v18 : F18 200 u c s p m v r l k a z g = some (devR u c s p m v r l k a z g) := by
  have no : ¬ devOk u c s p m v r l k a z g → some (([] : List UInt8), (1 : Int)) = some (devR u c s p m v r l k a z g) := fun h => by unfold devR; rw [if_neg h]
  have jt : F18_j4 200 u c s p m v r l k a z g true = some ([], 1) := rfl
  have j3 : ∀ size : Bool, (size = true ↔ setB m) → F18_j3 200 u c s p m v r l k a z g size = some (devR u c s p m v r l k a z g) := by
    intro size hs
    unfold F18_j3 F67
    rw [v68 200 (by omega) 255 _ (by simp), v68 200 (by omega) 65535 _ (by simp)]
    simp only [Option.bind_some]
    cases h1 : allR 255 [c, s, p, k, a, z]
    · exact no (fun h => by have := (all6 c s p k a z).2 h.2.1; rw [h1] at this; cases this)
    cases h2 : allR 65535 [u, v, r, l]
    · exact no (fun h => by have := (all4 65535 u v r l).2 h.2.2.1; rw [h2] at this; cases this)
    cases size
    · exact no (fun h => by have := hs.2 h.1; cases this)
    simp only [Bool.not_true, cond_false]
    by_cases h3 : g < 1
    · rw [decide_eq_true h3]; exact no (fun h => by have := h.2.2.2; unfold rg at this; omega)
    by_cases h4 : g > 255
    · rw [decide_eq_false h3, decide_eq_true h4]; exact no (fun h => by have := h.2.2.2; unfold rg at this; omega)
    rw [decide_eq_false h3, decide_eq_false h4]
    simp only [cond_false]
    rw [v18j4]
    unfold devR
    rw [if_pos (show devOk u c s p m v r l k a z g from ⟨hs.1 rfl, (all6 c s p k a z).1 h1, (all4 65535 u v r l).1 h2, by unfold rg; omega⟩)]
  unfold F18
  by_cases h1 : m = 8
  · rw [show (m == 8) = true by simpa using h1]; exact j3 true ⟨fun _ => .inl h1, fun _ => rfl⟩
  rw [show (m == 8) = false by simpa using h1]
  by_cases h2 : m = 16
  · rw [show (m == 16) = true by simpa using h2]; exact j3 true ⟨fun _ => .inr (.inl h2), fun _ => rfl⟩
  rw [show (m == 16) = false by simpa using h2]
  by_cases h3 : m = 32
  · rw [show (m == 32) = true by simpa using h3]; exact j3 true ⟨fun _ => .inr (.inr (.inl h3)), fun _ => rfl⟩
  rw [show (m == 32) = false by simpa using h3]
  refine j3 (m == 64) ⟨fun h => .inr (.inr (.inr (by simpa using h))), fun h => ?_⟩
  rcases h with h | h | h | h
  · exact absurd h h1
  · exact absurd h h2
  · exact absurd h h3
  · simpa using h
theorem v72 : F72 200 [8, 16, 32, 64] m = some (decide (setB m)) := by
  unfold F72 F100
  have main := loopF_eq (F100_l2 200 [8, 16, 32, 64] m) (fun x => some (if m = 8 ∧ x ≤ 0 then 0 else if m = 16 ∧ x ≤ 1 then 1 else if m = 32 ∧ x ≤ 2 then 2 else if m = 64 ∧ x ≤ 3 then 3 else -1)) (fun x => x = 0 ∨ x = 1 ∨ x = 2 ∨ x = 3 ∨ x = 4) (fun x => 4 - x.toNat) ?_ 200 0 (.inl rfl) (by simp)
  · rw [main]
    simp only [Option.bind_some, Option.some.injEq]
    rw [Bool.eq_iff_iff, decide_eq_true_iff, decide_eq_true_iff]
    unfold setB
    constructor
    · intro h
      split at h
      · omega
      · split at h
        · omega
        · split at h
          · omega
          · split at h
            · omega
            · omega
    · intro h
      split
      · omega
      · split
        · omega
        · split
          · omega
          · split
            · omega
            · omega
  rintro kk x hx ih
  rcases hx with rfl | rfl | rfl | rfl | rfl
  · show (bif m == 8 then some 0 else kk 1) = _
    by_cases h : m = 8
    · rw [show (m == 8) = true by simpa using h, if_pos ⟨h, by omega⟩]; rfl
    · rw [show (m == 8) = false by simpa using h, if_neg (fun hh => h hh.1)]
      have := ih 1 (.inr (.inl rfl)) (by simp)
      simp only [cond_false]
      rw [this, if_neg (fun hh => h hh.1)]
      simp
  · show (bif m == 16 then some 1 else kk 2) = _
    rw [if_neg (fun hh => by omega)]
    by_cases h : m = 16
    · rw [show (m == 16) = true by simpa using h, if_pos ⟨h, by omega⟩]; rfl
    · rw [show (m == 16) = false by simpa using h, if_neg (fun hh => h hh.1)]
      have := ih 2 (.inr (.inr (.inl rfl))) (by simp)
      simp only [cond_false]
      rw [this, if_neg (fun hh => by omega), if_neg (fun hh => h hh.1)]
      simp
  · show (bif m == 32 then some 2 else kk 3) = _
    rw [if_neg (fun hh => by omega), if_neg (fun hh => by omega)]
    by_cases h : m = 32
    · rw [show (m == 32) = true by simpa using h, if_pos ⟨h, by omega⟩]; rfl
    · rw [show (m == 32) = false by simpa using h, if_neg (fun hh => h hh.1)]
      have := ih 3 (.inr (.inr (.inr (.inl rfl)))) (by simp)
      simp only [cond_false]
      rw [this, if_neg (fun hh => by omega), if_neg (fun hh => by omega), if_neg (fun hh => h hh.1)]
      simp
  · show (bif m == 64 then some 3 else kk 4) = _
    rw [if_neg (fun hh => by omega), if_neg (fun hh => by omega), if_neg (fun hh => by omega)]
    by_cases h : m = 64
    · rw [show (m == 64) = true by simpa using h, if_pos ⟨h, by omega⟩]; rfl
    · rw [show (m == 64) = false by simpa using h, if_neg (fun hh => h hh.1)]
      have := ih 4 (.inr (.inr (.inr (.inr rfl)))) (by simp)
      simp only [cond_false]
      rw [this, if_neg (fun hh => by omega), if_neg (fun hh => by omega), if_neg (fun hh => by omega), if_neg (fun hh => h hh.1)]
  · show (some (-1 : Int)) = _
    rw [if_neg (fun hh => by omega), if_neg (fun hh => by omega), if_neg (fun hh => by omega), if_neg (fun hh => by omega)]
theorem v19end (hw : rg 0 65535 u ∧ rg 0 65535 v ∧ rg 0 65535 r ∧ rg 0 65535 l) (K : Int → Option (List UInt8 × Int)) : F19_l7 200 u c s p m v r l k a z g K 4 = some (devR u c s p m v r l k a z g) := by
  have no : ¬ devOk u c s p m v r l k a z g → some (([] : List UInt8), (1 : Int)) = some (devR u c s p m v r l k a z g) := fun h => by unfold devR; rw [if_neg h]
  show ((F71 200 [c, s, p, m]).bind fun y_4 => ((F71 200 [k, a, z, g]).bind fun y_5 => (bif (!y_4.2) then (F19_j8 200 u v r l y_4 y_5 true) else (bif (!y_5.2) then (F19_j8 200 u v r l y_4 y_5 true) else (bif (decide (g < 1)) then (F19_j8 200 u v r l y_4 y_5 true) else ((F72 200 [8, 16, 32, 64] m).bind fun y_10 => (F19_j8 200 u v r l y_4 y_5 (!y_10)))))))) = _
  rw [v71 200 (by omega) _ (by simp), v71 200 (by omega) _ (by simp), v72]
  simp only [Option.bind_some]
  cases h1 : allR 255 [c, s, p, m]
  · exact no (fun h => by
      have hm : rg 0 255 m := by have := h.1; unfold setB at this; unfold rg; omega
      have := (all4 255 c s p m).2 ⟨h.2.1.1, h.2.1.2.1, h.2.1.2.2.1, hm⟩
      rw [h1] at this; cases this)
  cases h2 : allR 255 [k, a, z, g]
  · exact no (fun h => by
      have hg : rg 0 255 g := by have := h.2.2.2; unfold rg at this ⊢; omega
      have := (all4 255 k a z g).2 ⟨h.2.1.2.2.2.1, h.2.1.2.2.2.2.1, h.2.1.2.2.2.2.2, hg⟩
      rw [h2] at this; cases this)
  simp only [if_true, Bool.not_true, cond_false]
  by_cases h3 : g < 1
  · rw [decide_eq_true h3]; exact no (fun h => by have := h.2.2.2; unfold rg at this; omega)
  rw [decide_eq_false h3]
  by_cases h4 : setB m
  · rw [decide_eq_true h4]
    simp only [Bool.not_true, cond_false]
    unfold F19_j8
    simp only [cond_false, v73 200 _ hw.1, v73 200 _ hw.2.1, v73 200 _ hw.2.2.1, v73 200 _ hw.2.2.2, Option.bind_some, List.length_append, len_tb, len_p4]
    obtain ⟨a1, a2, a3, a4⟩ := (all4 255 c s p m).1 h1
    obtain ⟨b1, b2, b3, b4⟩ := (all4 255 k a z g).1 h2
    unfold devR
    rw [if_pos (show devOk u c s p m v r l k a z g from ⟨h4, ⟨a1, a2, a3, b1, b2, b3⟩, hw, by unfold rg at b4 ⊢; omega⟩)]
    rfl
  · rw [decide_eq_false h4]; exact no (fun h => h4 h.1)
theorem v19 : F19 200 u c s p m v r l k a z g = some (devR u c s p m v r l k a z g) := by
  have no : ¬ (rg 0 65535 u ∧ rg 0 65535 v ∧ rg 0 65535 r ∧ rg 0 65535 l) → some (([] : List UInt8), (1 : Int)) = some (devR u c s p m v r l k a z g) := fun h => by unfold devR; rw [if_neg (fun hh => h hh.2.2.1)]
  have f16 : ∀ x : Int, F16 200 x 0 65535 = some (decide (rg 0 65535 x)) := by
    intro x
    unfold F16
    by_cases h : 0 ≤ x
    · rw [decide_eq_true h]
      simp only [cond_true, Option.some.injEq]
      rw [Bool.eq_iff_iff, decide_eq_true_iff, decide_eq_true_iff]
      exact ⟨fun e => ⟨h, e⟩, fun e => e.2⟩
    · rw [decide_eq_false h, decide_eq_false (show ¬ rg 0 65535 x from fun hh => h hh.1)]; rfl
  unfold F19
  show F19_l7 200 u c s p m v r l k a z g (loopF (F19_l7 200 u c s p m v r l k a z g) 199) 0 = _
  show ((F16 200 u 0 65535).bind fun y => bif !y then some ([], 1) else ((F16 200 v 0 65535).bind fun y => bif !y then some ([], 1) else ((F16 200 r 0 65535).bind fun y => bif !y then some ([], 1) else ((F16 200 l 0 65535).bind fun y => bif !y then some ([], 1) else F19_l7 200 u c s p m v r l k a z g (loopF (F19_l7 200 u c s p m v r l k a z g) 195) 4)))) = _
  rw [f16, f16, f16, f16]
  simp only [Option.bind_some]
  by_cases h1 : rg 0 65535 u
  · rw [decide_eq_true h1]
    by_cases h2 : rg 0 65535 v
    · rw [decide_eq_true h2]
      by_cases h3 : rg 0 65535 r
      · rw [decide_eq_true h3]
        by_cases h4 : rg 0 65535 l
        · rw [decide_eq_true h4]
          exact v19end u c s p m v r l k a z g ⟨h1, h2, h3, h4⟩ (loopF (F19_l7 200 u c s p m v r l k a z g) 195)
        · rw [decide_eq_false h4]; exact no (fun h => h4 h.2.2.2)
      · rw [decide_eq_false h3]; exact no (fun h => h3 h.2.2.1)
    · rw [decide_eq_false h2]; exact no (fun h => h2 h.2.1)
  · rw [decide_eq_false h1]; exact no (fun h => h1 h.1)
end
/-! reading -/
def by' (s : List UInt8) (i : Nat) : Nat := (s.getD i 0).toNat
theorem by_lt (s : List UInt8) (i : Nat) : by' s i < 256 := (s.getD i 0).toNat_lt
def wd (s : List UInt8) (i : Nat) : Nat := by' s i + by' s (i + 1) * 256
theorem v75 (n : Nat) (s : List UInt8) (i : Nat) (h : i + 1 < s.length) (hi : i ≤ 100) : F75 n s i = some (wd s i : Int) := by
  have b0 := by_lt s i
  have b1 := by_lt s (i + 1)
  unfold F75
  rw [w64 (n := (i : Int) + 1) (by omega) (by omega), show (i : Int) + 1 = ((i + 1 : Nat) : Int) by omega, inb_true (by omega) (show (i : Int) < s.length by omega), inb_true (by omega) (show ((i + 1 : Nat) : Int) < s.length by omega)]
  simp only [cond_true, Int.toNat_natCast]
  show some (bitsI .or .i64 (IntKind.wrap .i64 (by' s i : Int)) (shlI .i64 (IntKind.wrap .i64 (by' s (i + 1) : Int)) 8)) = _
  rw [w64n _ (by omega), w64n _ (by omega), show (8 : Int) = ((8 : Nat) : Int) from rfl, shl_mul _ 8 (by omega) (by omega), bOrAdd _ _ 8 (by omega) (by omega)]
  rfl
theorem v77 (n : Nat) (s : List UInt8) (i : Nat) (h : i + 1 < s.length) (hi : i ≤ 100) : F77 n s i = some (wd s i : Int) := by
  have b0 := by_lt s i
  have b1 := by_lt s (i + 1)
  unfold F77
  rw [w64 (n := (i : Int) + 1) (by omega) (by omega), show (i : Int) + 1 = ((i + 1 : Nat) : Int) by omega, inb_true (by omega) (show (i : Int) < s.length by omega), inb_true (by omega) (show ((i + 1 : Nat) : Int) < s.length by omega)]
  simp only [cond_true, Int.toNat_natCast]
  show some (IntKind.wrap .i64 (IntKind.wrap .i64 (256 * IntKind.wrap .i64 (by' s (i + 1) : Int)) + IntKind.wrap .i64 (by' s i : Int))) = _
  rw [w64n _ (by omega), w64n _ (by omega), w64 (n := 256 * (by' s (i + 1) : Int)) (by omega) (by omega), w64 (by omega) (by omega)]
  unfold wd
  congr 1
  omega
theorem v74 (n : Nat) (s : List UInt8) (i : Nat) (h : i < s.length) : F74 n i s = some (by' s i : Int) := by
  have b0 := by_lt s i
  unfold F74
  rw [inb_true (by omega) (show (i : Int) < s.length by omega)]
  simp only [cond_true, Int.toNat_natCast]
  show some (IntKind.wrap .i64 (by' s i : Int)) = _
  rw [w64n _ (by omega)]
theorem tb_wd (s : List UInt8) (i : Nat) : tb (wd s i : Int) = [s.getD i 0, s.getD (i + 1) 0] := by
  have b0 := by_lt s i
  have b1 := by_lt s (i + 1)
  unfold tb strOf
  simp only [List.map_cons, List.map_nil, u8w, show (8 : Int) = ((8 : Nat) : Int) from rfl, shr_div .i64 _ 8 (by decide)]
  have e0 : ((wd s i : Nat) : Int) % 256 = (by' s i : Nat) := by unfold wd; omega
  have e1 : ((wd s i : Nat) : Int) / 2 ^ 8 % 256 = (by' s (i + 1) : Nat) := by unfold wd; omega
  rw [e0, e1]
  unfold by'
  rw [u8_nat, u8_nat]
theorem by_u8 (s : List UInt8) (i : Nat) : UInt8.ofNat (IntKind.wrap .u8 (by' s i : Int)).toNat = s.getD i 0 := by
  have b0 := by_lt s i
  rw [u8w, show ((by' s i : Nat) : Int) % 256 = (by' s i : Nat) by omega]
  unfold by'
  rw [u8_nat]
theorem p4_by (s : List UInt8) (i j k l : Nat) : strOf (wr8 [(by' s i : Int), (by' s j : Int), (by' s k : Int), (by' s l : Int)]) = [s.getD i 0, s.getD j 0, s.getD k 0, s.getD l 0] := by
  unfold strOf wr8
  simp only [List.map_cons, List.map_nil, by_u8]
def txtS (s : List UInt8) : List UInt8 := txt (wd s 2) (by' s 4) (by' s 5) (by' s 6) (by' s 7) (wd s 8) (wd s 10) (wd s 12) (by' s 14) (by' s 15) (by' s 16) (by' s 17)
theorem txtS_eq (s : List UInt8) (hl : 18 ≤ s.length) : txtS s = [18, 1] ++ (s.take 18).drop 2 := by
  unfold txtS txt
  rw [tb_wd, tb_wd, tb_wd, tb_wd, p4_by, p4_by]
  obtain ⟨q, w, hq, rfl⟩ : ∃ q w : List UInt8, q.length = 18 ∧ s = q ++ w := ⟨s.take 18, s.drop 18, by rw [List.length_take]; omega, (List.take_append_drop 18 s).symm⟩
  have e : (q ++ w).take 18 = q := by rw [List.take_append_of_le_length (by omega), List.take_of_length_le (by omega)]
  rw [e]
  match q, hq with
  | [x0, x1, x2, x3, x4, x5, x6, x7, x8, x9, x10, x11, x12, x13, x14, x15, x16, x17], _ => rfl
theorem ix_byte : ∀ c : _root_.Fin 256, decide (Lib.indexByte ([8, 16, 32, 64] : List UInt8) ((c.val : Int)).toNat.toUInt8 < 0) = !decide (c.val = 8 ∨ c.val = 16 ∨ c.val = 32 ∨ c.val = 64) := by decide +kernel
abbrev DR := Int × Int × Int × Int × Int × Int × Int × Int × Int × Int × Int × Int × Int
def formE : DR := (0, 0, 0, 0, 0, 0, 0, 0, 0, 0, 0, 0, 4)
def devS (s : List UInt8) : DR := ((wd s 2 : Int), (by' s 4 : Int), (by' s 5 : Int), (by' s 6 : Int), (by' s 7 : Int), (wd s 8 : Int), (wd s 10 : Int), (wd s 12 : Int), (by' s 14 : Int), (by' s 15 : Int), (by' s 16 : Int), (by' s 17 : Int), 0)
def okS (s : List UInt8) : Prop := s.length = 18 ∧ s.take 2 = [18, 1] ∧ by' s 17 ≠ 0 ∧ setB (by' s 7 : Int)
theorem wd_rg (s : List UInt8) (i : Nat) : rg 0 65535 (wd s i : Int) := by
  have := by_lt s i
  have := by_lt s (i + 1)
  unfold rg wd; omega
theorem by_rg (s : List UInt8) (i : Nat) : rg 0 255 (by' s i : Int) := by
  have := by_lt s i
  unfold rg; omega
theorem devS_ok (s : List UInt8) : devOk (wd s 2) (by' s 4) (by' s 5) (by' s 6) (by' s 7) (wd s 8) (wd s 10) (wd s 12) (by' s 14) (by' s 15) (by' s 16) (by' s 17) ↔ setB (by' s 7 : Int) ∧ by' s 17 ≠ 0 := by
  have := by_lt s 17
  constructor
  · intro h; exact ⟨h.1, by have := h.2.2.2; unfold rg at this; omega⟩
  · rintro ⟨h1, h2⟩
    exact ⟨h1, ⟨by_rg s 4, by_rg s 5, by_rg s 6, by_rg s 14, by_rg s 15, by_rg s 16⟩, ⟨wd_rg s 2, wd_rg s 8, wd_rg s 10, wd_rg s 12⟩, by unfold rg; omega⟩
theorem v20 (s : List UInt8) (hl : 18 ≤ s.length) : F20 200 s = some (if okS s then devS s else formE) := by
  have no : ¬ okS s → some formE = some (if okS s then devS s else formE) := fun h => by rw [if_neg h]
  unfold F20
  rw [decide_eq_false (show ¬ ((s.length : Nat) : Int) < 18 by omega)]
  have e2 := v75 200 s 2 (by omega) (by omega)
  have e8 := v75 200 s 8 (by omega) (by omega)
  have e10 := v75 200 s 10 (by omega) (by omega)
  have e12 := v75 200 s 12 (by omega) (by omega)
  have e4 := v74 200 s 4 (by omega)
  have e5 := v74 200 s 5 (by omega)
  have e6 := v74 200 s 6 (by omega)
  have e7 := v74 200 s 7 (by omega)
  have e14 := v74 200 s 14 (by omega)
  have e15 := v74 200 s 15 (by omega)
  have e16 := v74 200 s 16 (by omega)
  have e17 := v74 200 s 17 (by omega)
  simp only [Int.cast_ofNat_Int] at e2 e8 e10 e12 e4 e5 e6 e7 e14 e15 e16 e17
  simp only [cond_false, e2, e8, e10, e12, e4, e5, e6, e7, e14, e15, e16, e17, Option.bind_some, v18]
  have hd := devS_ok s
  unfold devR
  by_cases h : setB (by' s 7 : Int) ∧ by' s 17 ≠ 0
  · rw [if_pos (hd.2 h)]
    simp only [bne_self_eq_false, cond_false]
    have ht := txtS_eq s hl
    unfold txtS at ht
    rw [ht]
    by_cases h2 : s.length = 18 ∧ s.take 2 = [18, 1]
    · have e : [18, 1] ++ (s.take 18).drop 2 = s := by
        rw [List.take_of_length_le (by omega), ← h2.2, List.take_append_drop]
      rw [e, show (s == s) = true by simp, if_pos (show okS s from ⟨h2.1, h2.2, h.2, h.1⟩)]
      rfl
    · have e : ([18, 1] ++ (s.take 18).drop 2 == s) = false := by
        rw [beq_eq_false_iff_ne]
        intro e
        apply h2
        have hlen := congrArg List.length e
        simp only [List.length_append, List.length_drop, List.length_take, List.length_cons, List.length_nil] at hlen
        refine ⟨by omega, ?_⟩
        rw [← e]; rfl
      rw [e]
      exact no (fun hh => h2 ⟨hh.1, hh.2.1⟩)
  · rw [if_neg (fun hh => h (hd.1 hh))]
    exact no (fun hh => h ⟨hh.2.2.2, hh.2.2.1⟩)
theorem v21 (s : List UInt8) (hl : 18 ≤ s.length) : F21 200 s = some (if okS s then devS s else formE) := by
  have no : ¬ okS s → some formE = some (if okS s then devS s else formE) := fun h => by rw [if_neg h]
  have jt : F21_j2 200 s true = some formE := rfl
  unfold F21
  rw [decide_eq_false (show ¬ ((s.length : Nat) : Int) < 18 by omega)]
  by_cases h18 : s.length = 18
  · rw [decide_eq_false (show ¬ ((s.length : Nat) : Int) > 18 by omega), show subB s.length none (some 2) = true by simp [subB]; omega, inb_true (show (0 : Int) ≤ 17 by omega) (show (17 : Int) < s.length by omega), inb_true (show (0 : Int) ≤ 7 by omega) (show (7 : Int) < s.length by omega)]
    simp only [cond_true, cond_false]
    by_cases h2 : s.take 2 = [18, 1]
    · rw [show (s.take 2 == ([18, 1] : List UInt8)) = true by simpa using h2]
      simp only [Bool.not_true, cond_false]
      show (bif (by' s 17 : Int) == 0 then _ else ((F76 200 [8, 16, 32, 64] (by' s 7 : Int)).bind fun y => F21_j2 200 s (decide (y < 0)))) = _
      by_cases h17 : by' s 17 = 0
      · rw [h17]; exact no (fun h => h.2.2.1 h17)
      · rw [show ((by' s 17 : Int) == 0) = false by rw [beq_eq_false_iff_ne]; omega]
        simp only [cond_false]
        unfold F76
        simp only [Option.bind_some]
        have hix := ix_byte ⟨by' s 7, by_lt s 7⟩
        simp only at hix
        rw [hix]
        by_cases hs : setB (by' s 7 : Int)
        · rw [decide_eq_true (show by' s 7 = 8 ∨ by' s 7 = 16 ∨ by' s 7 = 32 ∨ by' s 7 = 64 by unfold setB at hs; omega), if_pos (show okS s from ⟨h18, h2, h17, hs⟩)]
          unfold F21_j2
          have e2 := v77 200 s 2 (by omega) (by omega)
          have e8 := v77 200 s 8 (by omega) (by omega)
          have e10 := v77 200 s 10 (by omega) (by omega)
          have e12 := v77 200 s 12 (by omega) (by omega)
          simp only [Int.cast_ofNat_Int] at e2 e8 e10 e12
          have ib : ∀ i : Int, 0 ≤ i → i < 18 → inb i s.length = true := fun i a b => inb_true a (by omega)
          have wb : ∀ i : Nat, IntKind.wrap .i64 (((s.getD i 0).toNat : Nat) : Int) = (by' s i : Int) := fun i => by have := by_lt s i; exact w64n _ (by unfold by' at this; omega)
          simp only [Bool.not_true, cond_false, e2, e8, e10, e12, Option.bind_some, ib 4 (by omega) (by omega), ib 5 (by omega) (by omega), ib 6 (by omega) (by omega), ib 7 (by omega) (by omega), ib 14 (by omega) (by omega), ib 15 (by omega) (by omega), ib 16 (by omega) (by omega), ib 17 (by omega) (by omega), cond_true, wb]
          rfl
        · rw [decide_eq_false (show ¬ (by' s 7 = 8 ∨ by' s 7 = 16 ∨ by' s 7 = 32 ∨ by' s 7 = 64) by unfold setB at hs; omega)]
          exact no (fun h => hs h.2.2.2)
    · rw [show (s.take 2 == ([18, 1] : List UInt8)) = false by simpa using h2]
      exact no (fun h => h2 h.2.1)
  · rw [decide_eq_true (show ((s.length : Nat) : Int) > 18 by omega)]
    exact no (fun h => h18 h.1)
theorem descDevices_says (d : Int × Int × Int × Int × Int × Int × Int × Int × Int × Int × Int × Int) (g0 : Sh.good (.st (.pair (.int .i64) (.pair (.int .i64) (.pair (.int .i64) (.pair (.int .i64) (.pair (.int .i64) (.pair (.int .i64) (.pair (.int .i64) (.pair (.int .i64) (.pair (.int .i64) (.pair (.int .i64) (.pair (.int .i64) (.int .i64))))))))))))) d) (s : List UInt8) (g1 : Sh.good .str s) :
    ∃ n, F4 n d.1 d.2.1 d.2.2.1 d.2.2.2.1 d.2.2.2.2.1 d.2.2.2.2.2.1 d.2.2.2.2.2.2.1 d.2.2.2.2.2.2.2.1 d.2.2.2.2.2.2.2.2.1 d.2.2.2.2.2.2.2.2.2.1 d.2.2.2.2.2.2.2.2.2.2.1 d.2.2.2.2.2.2.2.2.2.2.2 s = some true := by
  have main : ∃ r, F20 200 s = some r ∧ F21 200 s = some r := by
    by_cases hl : 18 ≤ s.length
    · exact ⟨_, v20 s hl, v21 s hl⟩
    · refine ⟨(0, 0, 0, 0, 0, 0, 0, 0, 0, 0, 0, 0, 3), ?_, ?_⟩
      · unfold F20
        rw [decide_eq_true (show ((s.length : Nat) : Int) < 18 by omega)]; rfl
      · unfold F21
        rw [decide_eq_true (show ((s.length : Nat) : Int) < 18 by omega)]; rfl
  obtain ⟨r, e1, e2⟩ := main
  refine ⟨200, ?_⟩
  unfold F4
  rw [v18, v19, e1, e2]
  simp only [Option.bind_some, BEq.rfl, cond_true, Sh.beq_self]
end Go.Proofs.Ytgcdohclbkmmdaa
