/- Runes of a text, as the machine and as the document read them. -/
import Derived.Test.YtekmnhplhoejdaaDoorFty
import Derived.Test.YtekmnhplhoejdaaDoorAm26
namespace Go.Proofs.YtekmnhplhoejdaaDoor.Ua
open Go Go.RowKit
set_option linter.unusedVariables false

abbrev Tx := List UInt8
def bt (s : Tx) (k : Nat) : Nat := (s.getD k 0).toNat
theorem bt_lt (s : Tx) (k : Nat) : bt s k < 256 := UInt8.toNat_lt _
theorem get_at (s : Tx) (k : Nat) (h : k < s.length) : ((⟨s.toArray⟩ : ByteArray).get! k).toNat = bt s k := by
  have e : (⟨s.toArray⟩ : ByteArray).get! k = s.toArray[k]! := rfl
  rw [e, getElem!_pos s.toArray k (by simpa using h)]
  unfold bt
  rw [List.getD_eq_getElem?_getD, List.getElem?_eq_getElem h]
  simp
def cont (s : Tx) (k : Nat) : Bool := decide (k < s.length) && bt s k / 64 == 2
def validN (c : Nat) : Bool := decide (c < 55296) || (decide (57344 ≤ c) && decide (c ≤ 1114111))
/-- a rune and its width -/
def runeV (s : Tx) (p : Nat) : Nat × Nat :=
  if bt s p < 128 then (bt s p, 1)
  else if bt s p / 32 = 6 ∧ cont s (p + 1) = true then (if 128 ≤ (bt s p % 32) * 64 + bt s (p + 1) % 64 then ((bt s p % 32) * 64 + bt s (p + 1) % 64, 2) else (65533, 1))
  else if bt s p / 16 = 14 ∧ cont s (p + 1) = true ∧ cont s (p + 2) = true then
    (if 2048 ≤ (bt s p % 16) * 4096 + (bt s (p + 1) % 64) * 64 + bt s (p + 2) % 64 ∧ validN ((bt s p % 16) * 4096 + (bt s (p + 1) % 64) * 64 + bt s (p + 2) % 64) = true then ((bt s p % 16) * 4096 + (bt s (p + 1) % 64) * 64 + bt s (p + 2) % 64, 3) else (65533, 1))
  else if bt s p / 8 = 30 ∧ cont s (p + 1) = true ∧ cont s (p + 2) = true ∧ cont s (p + 3) = true then
    (if 65536 ≤ (bt s p % 8) * 262144 + (bt s (p + 1) % 64) * 4096 + (bt s (p + 2) % 64) * 64 + bt s (p + 3) % 64 ∧ validN ((bt s p % 8) * 262144 + (bt s (p + 1) % 64) * 4096 + (bt s (p + 2) % 64) * 64 + bt s (p + 3) % 64) = true then ((bt s p % 8) * 262144 + (bt s (p + 1) % 64) * 4096 + (bt s (p + 2) % 64) * 64 + bt s (p + 3) % 64, 4) else (65533, 1))
  else (65533, 1)
theorem valid_nat (c : Nat) : Utf8.valid (c : Int) = validN c := by
  unfold Utf8.valid validN
  rw [Bool.eq_iff_iff]
  simp
  omega
theorem runeAt_V (s : Tx) (p : Nat) (h : p < s.length) : Go.Proofs.YtekmnhplhoejdaaDoor.runeAt s p = runeV s p := by
  have hc : ∀ k, (decide (p + k < (⟨s.toArray⟩ : ByteArray).size) && ((⟨s.toArray⟩ : ByteArray).get! (p + k)).toNat / 64 == 2) = cont s (p + k) := by
    intro k
    unfold cont
    by_cases hk : p + k < s.length
    · rw [get_at s _ hk]; rfl
    · rw [decide_eq_false (show ¬ p + k < (⟨s.toArray⟩ : ByteArray).size from hk), decide_eq_false hk]; rfl
  have g : ∀ k, cont s (p + k) = true → ((⟨s.toArray⟩ : ByteArray).get! (p + k)).toNat = bt s (p + k) := by
    intro k hk
    unfold cont at hk
    rw [Bool.and_eq_true, decide_eq_true_eq] at hk
    exact get_at s _ hk.1
  have g0 : ((⟨s.toArray⟩ : ByteArray).get! (p + 0)).toNat = bt s p := get_at s p h
  unfold Go.Proofs.YtekmnhplhoejdaaDoor.runeAt Utf8.decode runeV
  simp only [hc, g0]
  split
  · rfl
  · by_cases c1 : bt s p / 32 = 6 ∧ cont s (p + 1) = true
    · rw [if_pos c1, if_pos (by simpa using c1), g 1 c1.2]
      rfl
    · rw [if_neg c1, if_neg (by simpa using c1)]
      by_cases c2 : bt s p / 16 = 14 ∧ cont s (p + 1) = true ∧ cont s (p + 2) = true
      · rw [if_pos c2, if_pos (by simpa [and_assoc] using c2), g 1 c2.2.1, g 2 c2.2.2]
        simp only [Bool.and_eq_true, decide_eq_true_eq, ge_iff_le, valid_nat]
        rfl
      · rw [if_neg c2, if_neg (by simpa [and_assoc] using c2)]
        by_cases c3 : bt s p / 8 = 30 ∧ cont s (p + 1) = true ∧ cont s (p + 2) = true ∧ cont s (p + 3) = true
        · rw [if_pos c3, if_pos (by simpa [and_assoc] using c3), g 1 c3.2.1, g 2 c3.2.2.1, g 3 c3.2.2.2]
          simp only [Bool.and_eq_true, decide_eq_true_eq, ge_iff_le, valid_nat]
          rfl
        · rw [if_neg c3, if_neg (by simpa [and_assoc] using c3)]
          rfl
theorem runeV_w (s : Tx) (p : Nat) : 1 ≤ (runeV s p).2 ∧ (runeV s p).2 ≤ 4 ∧ (runeV s p).1 ≤ 1114111 := by
  have := bt_lt s p
  unfold runeV
  repeat' split
  all_goals (simp only [validN, Bool.or_eq_true, Bool.and_eq_true, decide_eq_true_eq] at *; omega)
theorem W8 (s : Tx) (k : Nat) : IntKind.wrap .i64 (((s.getD k 0).toNat : Nat) : Int) = ((bt s k : Nat) : Int) := by
  have := bt_lt s k
  exact w64 (by show _ ≤ ((bt s k : Nat) : Int); omega) (by show ((bt s k : Nat) : Int) ≤ _; omega)
/-- the end of a rune of several bytes -/
def endE (b least vn : Nat) : Option (Int × Int) := some (if b < least ∨ b > 1114111 ∨ (55296 ≤ b ∧ b < 57344) then (65533, 1) else ((b : Int), (vn : Int) + 1))
theorem stepE (n : Nat) (s : Tx) (p vn least : Nat) (k : (Int × Int) → Option (Int × Int)) (b x : Nat) (hp : p < 9223372036854775000) (hvn : vn ≤ 3) (hx : x ≤ 3) (hb : b < 16777216) :
    F125_l4 n s (p : Int) (vn : Int) (least : Int) k ((b : Int), (x : Int)) = if x < vn then (if cont s (p + 1 + x) = true then k (((64 * b + bt s (p + 1 + x) % 64 : Nat) : Int), ((x + 1 : Nat) : Int)) else some (65533, 1)) else endE b least vn := by
  simp only [F125_l4]
  rw [w64 (n := (p : Int) + 1) (by omega) (by omega), w64 (n := (p : Int) + 1 + (x : Int)) (by omega) (by omega)]
  by_cases h1 : x < vn
  · rw [if_pos h1, decide_eq_true (show (x : Int) < (vn : Int) by omega)]
    simp only [cond_true]
    by_cases h2 : p + 1 + x < s.length
    · rw [decide_eq_false (show ¬ (p : Int) + 1 + (x : Int) ≥ ((s.length : Nat) : Int) by omega), inb_true (show (0 : Int) ≤ (p : Int) + 1 + (x : Int) by omega) (show (p : Int) + 1 + (x : Int) < s.length by omega), show ((p : Int) + 1 + (x : Int)).toNat = p + 1 + x by omega, W8]
      have hB := bt_lt s (p + 1 + x)
      have e1 : IntKind.wrap .u8 (((((s.getD (p + 1 + x) 0).toNat : Nat) : Int)).tdiv 64) = ((bt s (p + 1 + x) / 64 : Nat) : Int) := by
        show IntKind.wrap .u8 (((bt s (p + 1 + x) : Nat) : Int).tdiv 64) = _
        rw [Int.tdiv_eq_ediv_of_nonneg (by omega), u8w]; omega
      rw [e1, Int.tmod_eq_emod_of_nonneg (show (0 : Int) ≤ ((bt s (p + 1 + x) : Nat) : Int) by omega)]
      simp only [cond_false, cond_true]
      have hcv : cont s (p + 1 + x) = (bt s (p + 1 + x) / 64 == 2) := by unfold cont; rw [decide_eq_true h2, Bool.true_and]
      rw [hcv]
      by_cases h3 : bt s (p + 1 + x) / 64 = 2
      · rw [show ((((bt s (p + 1 + x) / 64 : Nat) : Int)) != 2) = false by rw [h3]; rfl, show (bt s (p + 1 + x) / 64 == 2) = true by rw [h3]; rfl, w64 (n := 64 * (b : Int)) (by omega) (by omega), w64 (n := 64 * (b : Int) + _) (by omega) (by omega), w64 (n := (x : Int) + 1) (by omega) (by omega)]
        simp only [cond_false, if_true]
        congr 1
      · rw [show ((((bt s (p + 1 + x) / 64 : Nat) : Int)) != 2) = true by rw [bne_iff_ne]; omega, show (bt s (p + 1 + x) / 64 == 2) = false by rw [beq_eq_false_iff_ne]; exact h3]
        rfl
    · rw [decide_eq_true (show (p : Int) + 1 + (x : Int) ≥ ((s.length : Nat) : Int) by omega), if_neg (by unfold cont; rw [decide_eq_false h2]; simp)]
      rfl
  · rw [if_neg h1, decide_eq_false (show ¬ (x : Int) < (vn : Int) by omega), w64 (n := (vn : Int) + 1) (by omega) (by omega)]
    unfold endE
    simp only [cond_false]
    by_cases q1 : b < least
    · rw [decide_eq_true (show (b : Int) < (least : Int) by omega), if_pos (.inl q1)]; rfl
    rw [decide_eq_false (show ¬ (b : Int) < (least : Int) by omega)]
    by_cases q2 : b > 1114111
    · rw [decide_eq_true (show (b : Int) > 1114111 by omega), if_pos (.inr (.inl q2))]; rfl
    rw [decide_eq_false (show ¬ (b : Int) > 1114111 by omega)]
    by_cases q3 : 55296 ≤ b
    · rw [decide_eq_true (show (b : Int) ≥ 55296 by omega)]
      by_cases q4 : b < 57344
      · rw [decide_eq_true (show (b : Int) < 57344 by omega), if_pos (.inr (.inr ⟨q3, q4⟩))]; rfl
      · rw [decide_eq_false (show ¬ (b : Int) < 57344 by omega), if_neg (by omega)]; rfl
    · rw [decide_eq_false (show ¬ (b : Int) ≥ 55296 by omega), if_neg (by omega)]; rfl
theorem rune2 (n : Nat) (s : Tx) (p b : Nat) (hp : p < 9223372036854775000) (hb : b < 64) (hn : 10 < n) :
    F125_j3 n s (p : Int) ((b : Int), 1, 128) = if cont s (p + 1) = true then endE (64 * b + bt s (p + 1) % 64) 128 1 else some (65533, 1) := by
  obtain ⟨m, rfl⟩ : ∃ m, n = m + 5 := ⟨n - 5, by omega⟩
  show F125_l4 (m + 5) s (p : Int) ((1 : Nat) : Int) ((128 : Nat) : Int) (loopF (F125_l4 (m + 5) s (p : Int) ((1 : Nat) : Int) ((128 : Nat) : Int)) (m + 4)) ((b : Int), ((0 : Nat) : Int)) = _
  rw [stepE _ _ _ _ _ _ _ _ hp (by omega) (by omega) (by omega), if_pos (by omega), Nat.add_zero]
  by_cases c1 : cont s (p + 1) = true
  · rw [if_pos c1, if_pos c1]
    show F125_l4 (m + 5) s (p : Int) ((1 : Nat) : Int) ((128 : Nat) : Int) (loopF (F125_l4 (m + 5) s (p : Int) ((1 : Nat) : Int) ((128 : Nat) : Int)) (m + 3)) _ = _
    rw [stepE _ _ _ _ _ _ _ _ hp (by omega) (by omega) (by omega), if_neg (by omega)]
  · rw [if_neg c1, if_neg c1]
theorem rune3 (n : Nat) (s : Tx) (p b : Nat) (hp : p < 9223372036854775000) (hb : b < 64) (hn : 10 < n) :
    F125_j3 n s (p : Int) ((b : Int), 2, 2048) = if cont s (p + 1) = true ∧ cont s (p + 2) = true then endE (64 * (64 * b + bt s (p + 1) % 64) + bt s (p + 2) % 64) 2048 2 else some (65533, 1) := by
  obtain ⟨m, rfl⟩ : ∃ m, n = m + 5 := ⟨n - 5, by omega⟩
  show F125_l4 (m + 5) s (p : Int) ((2 : Nat) : Int) ((2048 : Nat) : Int) (loopF (F125_l4 (m + 5) s (p : Int) ((2 : Nat) : Int) ((2048 : Nat) : Int)) (m + 4)) ((b : Int), ((0 : Nat) : Int)) = _
  rw [stepE _ _ _ _ _ _ _ _ hp (by omega) (by omega) (by omega), if_pos (by omega), Nat.add_zero]
  by_cases c1 : cont s (p + 1) = true
  · rw [if_pos c1]
    show F125_l4 (m + 5) s (p : Int) ((2 : Nat) : Int) ((2048 : Nat) : Int) (loopF (F125_l4 (m + 5) s (p : Int) ((2 : Nat) : Int) ((2048 : Nat) : Int)) (m + 3)) _ = _
    rw [stepE _ _ _ _ _ _ _ _ hp (by omega) (by omega) (by omega), if_pos (by omega), show p + 1 + (0 + 1) = p + 2 by omega]
    by_cases c2 : cont s (p + 2) = true
    · rw [if_pos c2, if_pos ⟨c1, c2⟩]
      show F125_l4 (m + 5) s (p : Int) ((2 : Nat) : Int) ((2048 : Nat) : Int) (loopF (F125_l4 (m + 5) s (p : Int) ((2 : Nat) : Int) ((2048 : Nat) : Int)) (m + 2)) _ = _
      rw [stepE _ _ _ _ _ _ _ _ hp (by omega) (by omega) (by omega), if_neg (by omega)]
    · rw [if_neg c2, if_neg (fun h => c2 h.2)]
  · rw [if_neg c1, if_neg (fun h => c1 h.1)]
theorem rune4 (n : Nat) (s : Tx) (p b : Nat) (hp : p < 9223372036854775000) (hb : b < 64) (hn : 10 < n) :
    F125_j3 n s (p : Int) ((b : Int), 3, 65536) = if cont s (p + 1) = true ∧ cont s (p + 2) = true ∧ cont s (p + 3) = true then endE (64 * (64 * (64 * b + bt s (p + 1) % 64) + bt s (p + 2) % 64) + bt s (p + 3) % 64) 65536 3 else some (65533, 1) := by
  obtain ⟨m, rfl⟩ : ∃ m, n = m + 5 := ⟨n - 5, by omega⟩
  show F125_l4 (m + 5) s (p : Int) ((3 : Nat) : Int) ((65536 : Nat) : Int) (loopF (F125_l4 (m + 5) s (p : Int) ((3 : Nat) : Int) ((65536 : Nat) : Int)) (m + 4)) ((b : Int), ((0 : Nat) : Int)) = _
  rw [stepE _ _ _ _ _ _ _ _ hp (by omega) (by omega) (by omega), if_pos (by omega), Nat.add_zero]
  by_cases c1 : cont s (p + 1) = true
  · rw [if_pos c1]
    show F125_l4 (m + 5) s (p : Int) ((3 : Nat) : Int) ((65536 : Nat) : Int) (loopF (F125_l4 (m + 5) s (p : Int) ((3 : Nat) : Int) ((65536 : Nat) : Int)) (m + 3)) _ = _
    rw [stepE _ _ _ _ _ _ _ _ hp (by omega) (by omega) (by omega), if_pos (by omega), show p + 1 + (0 + 1) = p + 2 by omega]
    by_cases c2 : cont s (p + 2) = true
    · rw [if_pos c2]
      show F125_l4 (m + 5) s (p : Int) ((3 : Nat) : Int) ((65536 : Nat) : Int) (loopF (F125_l4 (m + 5) s (p : Int) ((3 : Nat) : Int) ((65536 : Nat) : Int)) (m + 2)) _ = _
      rw [stepE _ _ _ _ _ _ _ _ hp (by omega) (by omega) (by omega), if_pos (by omega), show p + 1 + (0 + 1 + 1) = p + 3 by omega]
      by_cases c3 : cont s (p + 3) = true
      · rw [if_pos c3, if_pos ⟨c1, c2, c3⟩]
        show F125_l4 (m + 5) s (p : Int) ((3 : Nat) : Int) ((65536 : Nat) : Int) (loopF (F125_l4 (m + 5) s (p : Int) ((3 : Nat) : Int) ((65536 : Nat) : Int)) (m + 1)) _ = _
        rw [stepE _ _ _ _ _ _ _ _ hp (by omega) (by omega) (by omega), if_neg (by omega)]
      · rw [if_neg c3, if_neg (fun h => c3 h.2.2)]
    · rw [if_neg c2, if_neg (fun h => c2 h.2.1)]
  · rw [if_neg c1, if_neg (fun h => c1 h.1)]
theorem runeR (n : Nat) (s : Tx) (p : Nat) (h : p < s.length) (hs : s.length < 9223372036854775000) (hn : 10 < n) : F125 n s (p : Int) = some (((runeV s p).1 : Int), ((runeV s p).2 : Int)) := by
  have hb := bt_lt s p
  unfold F125
  rw [inb_true (show (0 : Int) ≤ p by omega) (show (p : Int) < s.length by omega), Int.toNat_natCast, W8]
  have V : ∀ a b : Nat, runeV s p = (a, b) → some ((a : Int), (b : Int)) = some (((runeV s p).1 : Int), ((runeV s p).2 : Int)) := by intro a b e; rw [e]
  simp only [cond_true]
  by_cases h1 : bt s p < 128
  · rw [decide_eq_true (show ((bt s p : Nat) : Int) < 128 by omega)]
    exact V _ _ (by unfold runeV; rw [if_pos h1])
  rw [decide_eq_false (show ¬ ((bt s p : Nat) : Int) < 128 by omega)]
  simp only [cond_false]
  by_cases h2 : bt s p < 192
  · simp only [decide_eq_false (show ¬ ((bt s p : Nat) : Int) ≥ 192 by omega), decide_eq_false (show ¬ ((bt s p : Nat) : Int) ≥ 224 by omega), decide_eq_false (show ¬ ((bt s p : Nat) : Int) ≥ 240 by omega), cond_false]
    exact V 65533 1 (by unfold runeV; rw [if_neg h1, if_neg (by omega), if_neg (by omega), if_neg (by omega)])
  simp only [decide_eq_true (show ((bt s p : Nat) : Int) ≥ 192 by omega), cond_true]
  by_cases h3 : bt s p < 224
  · simp only [decide_eq_true (show ((bt s p : Nat) : Int) < 224 by omega), cond_true]
    rw [w64 (n := ((bt s p : Nat) : Int) - 192) (by omega) (by omega), show ((bt s p : Nat) : Int) - 192 = ((bt s p % 32 : Nat) : Int) by omega, rune2 n s p _ (by omega) (by omega) hn]
    by_cases c1 : cont s (p + 1) = true
    · rw [if_pos c1]
      unfold endE
      have := bt_lt s (p + 1)
      by_cases q : 128 ≤ (bt s p % 32) * 64 + bt s (p + 1) % 64
      · rw [if_neg (by omega), show 64 * (bt s p % 32) + bt s (p + 1) % 64 = (bt s p % 32) * 64 + bt s (p + 1) % 64 by omega]
        exact V _ 2 (by unfold runeV; rw [if_neg h1, if_pos ⟨by omega, c1⟩, if_pos q])
      · rw [if_pos (by omega)]
        exact V 65533 1 (by unfold runeV; rw [if_neg h1, if_pos ⟨by omega, c1⟩, if_neg q])
    · rw [if_neg c1]
      exact V 65533 1 (by unfold runeV; rw [if_neg h1, if_neg (fun h => c1 h.2), if_neg (fun h => c1 h.2.1), if_neg (fun h => c1 h.2.1)])
  simp only [decide_eq_false (show ¬ ((bt s p : Nat) : Int) < 224 by omega), decide_eq_true (show ((bt s p : Nat) : Int) ≥ 224 by omega), cond_true, cond_false]
  by_cases h4 : bt s p < 240
  · simp only [decide_eq_true (show ((bt s p : Nat) : Int) < 240 by omega), cond_true]
    rw [w64 (n := ((bt s p : Nat) : Int) - 224) (by omega) (by omega), show ((bt s p : Nat) : Int) - 224 = ((bt s p % 16 : Nat) : Int) by omega, rune3 n s p _ (by omega) (by omega) hn]
    by_cases c1 : cont s (p + 1) = true ∧ cont s (p + 2) = true
    · rw [if_pos c1]
      unfold endE
      have := bt_lt s (p + 1)
      have := bt_lt s (p + 2)
      have ev : 64 * (64 * (bt s p % 16) + bt s (p + 1) % 64) + bt s (p + 2) % 64 = (bt s p % 16) * 4096 + (bt s (p + 1) % 64) * 64 + bt s (p + 2) % 64 := by omega
      rw [ev]
      have pre : runeV s p = if 2048 ≤ (bt s p % 16) * 4096 + (bt s (p + 1) % 64) * 64 + bt s (p + 2) % 64 ∧ validN ((bt s p % 16) * 4096 + (bt s (p + 1) % 64) * 64 + bt s (p + 2) % 64) = true then ((bt s p % 16) * 4096 + (bt s (p + 1) % 64) * 64 + bt s (p + 2) % 64, 3) else (65533, 1) := by
        unfold runeV; rw [if_neg h1, if_neg (by omega), if_pos ⟨by omega, c1⟩]
      generalize (bt s p % 16) * 4096 + (bt s (p + 1) % 64) * 64 + bt s (p + 2) % 64 = c at *
      by_cases q : c < 2048 ∨ c > 1114111 ∨ (55296 ≤ c ∧ c < 57344)
      · rw [if_pos q]
        exact V 65533 1 (by rw [pre, if_neg]; simp only [validN, Bool.or_eq_true, Bool.and_eq_true, decide_eq_true_eq]; omega)
      · rw [if_neg q]
        exact V c 3 (by rw [pre, if_pos]; simp only [validN, Bool.or_eq_true, Bool.and_eq_true, decide_eq_true_eq]; omega)
    · rw [if_neg c1]
      exact V 65533 1 (by unfold runeV; rw [if_neg h1, if_neg (by omega), if_neg (fun h => c1 h.2), if_neg (by omega)])
  simp only [decide_eq_false (show ¬ ((bt s p : Nat) : Int) < 240 by omega), decide_eq_true (show ((bt s p : Nat) : Int) ≥ 240 by omega), cond_true, cond_false]
  by_cases h5 : bt s p < 248
  · simp only [decide_eq_true (show ((bt s p : Nat) : Int) < 248 by omega), cond_true]
    rw [w64 (n := ((bt s p : Nat) : Int) - 240) (by omega) (by omega), show ((bt s p : Nat) : Int) - 240 = ((bt s p % 8 : Nat) : Int) by omega, rune4 n s p _ (by omega) (by omega) hn]
    by_cases c1 : cont s (p + 1) = true ∧ cont s (p + 2) = true ∧ cont s (p + 3) = true
    · rw [if_pos c1]
      unfold endE
      have := bt_lt s (p + 1)
      have := bt_lt s (p + 2)
      have := bt_lt s (p + 3)
      have ev : 64 * (64 * (64 * (bt s p % 8) + bt s (p + 1) % 64) + bt s (p + 2) % 64) + bt s (p + 3) % 64 = (bt s p % 8) * 262144 + (bt s (p + 1) % 64) * 4096 + (bt s (p + 2) % 64) * 64 + bt s (p + 3) % 64 := by omega
      rw [ev]
      have pre : runeV s p = if 65536 ≤ (bt s p % 8) * 262144 + (bt s (p + 1) % 64) * 4096 + (bt s (p + 2) % 64) * 64 + bt s (p + 3) % 64 ∧ validN ((bt s p % 8) * 262144 + (bt s (p + 1) % 64) * 4096 + (bt s (p + 2) % 64) * 64 + bt s (p + 3) % 64) = true then ((bt s p % 8) * 262144 + (bt s (p + 1) % 64) * 4096 + (bt s (p + 2) % 64) * 64 + bt s (p + 3) % 64, 4) else (65533, 1) := by
        unfold runeV; rw [if_neg h1, if_neg (by omega), if_neg (by omega), if_pos ⟨by omega, c1⟩]
      generalize (bt s p % 8) * 262144 + (bt s (p + 1) % 64) * 4096 + (bt s (p + 2) % 64) * 64 + bt s (p + 3) % 64 = c at *
      by_cases q : c < 65536 ∨ c > 1114111 ∨ (55296 ≤ c ∧ c < 57344)
      · rw [if_pos q]
        exact V 65533 1 (by rw [pre, if_neg]; simp only [validN, Bool.or_eq_true, Bool.and_eq_true, decide_eq_true_eq]; omega)
      · rw [if_neg q]
        exact V c 4 (by rw [pre, if_pos]; simp only [validN, Bool.or_eq_true, Bool.and_eq_true, decide_eq_true_eq]; omega)
    · rw [if_neg c1]
      exact V 65533 1 (by unfold runeV; rw [if_neg h1, if_neg (by omega), if_neg (by omega), if_neg (fun h => c1 h.2)])
  · simp only [decide_eq_false (show ¬ ((bt s p : Nat) : Int) < 248 by omega), cond_false]
    exact V 65533 1 (by unfold runeV; rw [if_neg h1, if_neg (by omega), if_neg (by omega), if_neg (by omega)])
end Go.Proofs.YtekmnhplhoejdaaDoor.Ua
