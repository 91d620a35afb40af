/- Runes of a text, as the machine and as the document read them. -/
import Derived.Test.YtghbnolfadnoaaaGreatFgm
import Derived.Test.YtghbnolfadnoaaaGreatAm26
import Derived.Test.YtghbnolfadnoaaaGreatSRdB
namespace Go.Proofs.YtghbnolfadnoaaaGreat
open Go Go.RowKit
set_option linter.unusedVariables false
abbrev Tx := List UInt8
def bt (s : Tx) (k : Nat) : Nat := (s.getD k 0).toNat
theorem bt_lt (s : Tx) (k : Nat) : bt s k < 256 := UInt8.toNat_lt _
theorem get_at (s : Tx) (k : Nat) (h : k < s.length) : ((⟨s.toArray⟩ : ByteArray).get! k).toNat = bt s k := by
 have e : (⟨s.toArray⟩ : ByteArray).get! k = s.toArray[k]! := rfl
 rw [e, getElem!_pos s.toArray k (by simpa using h)]
 unfold bt
 rw [List.getD_eq_getElem?_getD, List.getElem?_eq_getElem h]
 simp
def cont (s : Tx) (k : Nat) : Bool := decide (k < s.length) && bt s k / 64 == 2
def validN (c : Nat) : Bool := decide (c < 55296) || (decide (57344 ≤ c) && decide (c ≤ 1114111))
def runeV (s : Tx) (p : Nat) : Nat × Nat :=
 if bt s p < 128 then (bt s p, 1)
 else if bt s p / 32 = 6 ∧ cont s (p + 1) = true then (if 128 ≤ (bt s p % 32) * 64 + bt s (p + 1) % 64 then ((bt s p % 32) * 64 + bt s (p + 1) % 64, 2) else (65533, 1))
 else if bt s p / 16 = 14 ∧ cont s (p + 1) = true ∧ cont s (p + 2) = true then
  (if 2048 ≤ (bt s p % 16) * 4096 + (bt s (p + 1) % 64) * 64 + bt s (p + 2) % 64 ∧ validN ((bt s p % 16) * 4096 + (bt s (p + 1) % 64) * 64 + bt s (p + 2) % 64) = true then ((bt s p % 16) * 4096 + (bt s (p + 1) % 64) * 64 + bt s (p + 2) % 64, 3) else (65533, 1))
 else if bt s p / 8 = 30 ∧ cont s (p + 1) = true ∧ cont s (p + 2) = true ∧ cont s (p + 3) = true then
  (if 65536 ≤ (bt s p % 8) * 262144 + (bt s (p + 1) % 64) * 4096 + (bt s (p + 2) % 64) * 64 + bt s (p + 3) % 64 ∧ validN ((bt s p % 8) * 262144 + (bt s (p + 1) % 64) * 4096 + (bt s (p + 2) % 64) * 64 + bt s (p + 3) % 64) = true then ((bt s p % 8) * 262144 + (bt s (p + 1) % 64) * 4096 + (bt s (p + 2) % 64) * 64 + bt s (p + 3) % 64, 4) else (65533, 1))
 else (65533, 1)
theorem valid_nat (c : Nat) : Utf8.valid (c : Int) = validN c := by
 unfold Utf8.valid validN
 rw [Bool.eq_iff_iff]
 simp
 omega
theorem runeAt_V (s : Tx) (p : Nat) (h : p < s.length) : Go.Proofs.YtghbnolfadnoaaaGreat.runeAt s p = runeV s p := by
 have hc : ∀ k, (decide (p + k < (⟨s.toArray⟩ : ByteArray).size) && ((⟨s.toArray⟩ : ByteArray).get! (p + k)).toNat / 64 == 2) = cont s (p + k) := by
  intro k
  unfold cont
  by_cases hk : p + k < s.length
  ·rw [get_at s _ hk]; rfl
  ·rw [decide_eq_false (show ¬ p + k < (⟨s.toArray⟩ : ByteArray).size from hk), decide_eq_false hk]; rfl
 have g : ∀ k, cont s (p + k) = true → ((⟨s.toArray⟩ : ByteArray).get! (p + k)).toNat = bt s (p + k) := by
  intro k hk
  unfold cont at hk
  rw [Bool.and_eq_true, decide_eq_true_eq] at hk
  exact get_at s _ hk.1
 have g0 : ((⟨s.toArray⟩ : ByteArray).get! (p + 0)).toNat = bt s p := get_at s p h
 unfold Go.Proofs.YtghbnolfadnoaaaGreat.runeAt Utf8.decode runeV
 simp only [hc, g0]
 split
 ·rfl
 ·by_cases c1 : bt s p / 32 = 6 ∧ cont s (p + 1) = true
  ·rw [if_pos c1, if_pos (by simpa using c1), g 1 c1.2]
   rfl
  ·rw [if_neg c1, if_neg (by simpa using c1)]
   by_cases c2 : bt s p / 16 = 14 ∧ cont s (p + 1) = true ∧ cont s (p + 2) = true
   ·rw [if_pos c2, if_pos (by simpa [and_assoc] using c2), g 1 c2.2.1, g 2 c2.2.2]
    simp only [Bool.and_eq_true, decide_eq_true_eq, ge_iff_le, valid_nat]
    rfl
   ·rw [if_neg c2, if_neg (by simpa [and_assoc] using c2)]
    by_cases c3 : bt s p / 8 = 30 ∧ cont s (p + 1) = true ∧ cont s (p + 2) = true ∧ cont s (p + 3) = true
    ·rw [if_pos c3, if_pos (by simpa [and_assoc] using c3), g 1 c3.2.1, g 2 c3.2.2.1, g 3 c3.2.2.2]
     simp only [Bool.and_eq_true, decide_eq_true_eq, ge_iff_le, valid_nat]
     rfl
    ·rw [if_neg c3, if_neg (by simpa [and_assoc] using c3)]
     rfl
theorem runeV_w (s : Tx) (p : Nat) : 1 ≤ (runeV s p).2 ∧ (runeV s p).2 ≤ 4 ∧ (runeV s p).1 ≤ 1114111 := by
 have := bt_lt s p
 unfold runeV
 repeat' split
 all_goals (simp only [validN, Bool.or_eq_true, Bool.and_eq_true, decide_eq_true_eq] at *; omega)
theorem W8 (s : Tx) (k : Nat) : IntKind.wrap .i64 (((s.getD k 0).toNat : Nat) : Int) = ((bt s k : Nat) : Int) := by
 have := bt_lt s k
 exact w64 (by show _ ≤ ((bt s k : Nat) : Int); omega) (by show ((bt s k : Nat) : Int) ≤ _; omega)
def endE (b least vn : Nat) : Option (Int × Int) := some (if b < least ∨ b > 1114111 ∨ (55296 ≤ b ∧ b < 57344) then (65533, 1) else ((b : Int), (vn : Int) + 1))
theorem stepE (n : Nat) (s : Tx) (p vn least : Nat) (k : (Int × Int) → Option (Int × Int)) (b x : Nat) (hp : p < 9223372036854775000) (hvn : vn ≤ 3) (hx : x ≤ 3) (hb : b < 16777216) :
  F109_l4 n s (p : Int) (vn : Int) (least : Int) k ((b : Int), (x : Int)) = if x < vn then (if cont s (p + 1 + x) = true then k (((64 * b + bt s (p + 1 + x) % 64 : Nat) : Int), ((x + 1 : Nat) : Int)) else some (65533, 1)) else endE b least vn := by
 simp only [F109_l4]
 rw [w64 (n := (p : Int) + 1) (by omega) (by omega), w64 (n := (p : Int) + 1 + (x : Int)) (by omega) (by omega)]
 by_cases h1 : x < vn
 ·rw [if_pos h1, decide_eq_true (show (x : Int) < (vn : Int) by omega)]
  simp only [cond_true]
  by_cases h2 : p + 1 + x < s.length
  ·rw [decide_eq_false (show ¬ (p : Int) + 1 + (x : Int) ≥ ((s.length : Nat) : Int) by omega), inb_true (show (0 : Int) ≤ (p : Int) + 1 + (x : Int) by omega) (show (p : Int) + 1 + (x : Int) < s.length by omega), show ((p : Int) + 1 + (x : Int)).toNat = p + 1 + x by omega, W8]
   have hB := bt_lt s (p + 1 + x)
   have e1 : IntKind.wrap .u8 (((((s.getD (p + 1 + x) 0).toNat : Nat) : Int)).tdiv 64) = ((bt s (p + 1 + x) / 64 : Nat) : Int) := by
    show IntKind.wrap .u8 (((bt s (p + 1 + x) : Nat) : Int).tdiv 64) = _
    rw [Int.tdiv_eq_ediv_of_nonneg (by omega), u8w]; omega
   rw [e1, Int.tmod_eq_emod_of_nonneg (show (0 : Int) ≤ ((bt s (p + 1 + x) : Nat) : Int) by omega)]
   simp only [cond_false, cond_true]
   have hcv : cont s (p + 1 + x) = (bt s (p + 1 + x) / 64 == 2) := by unfold cont; rw [decide_eq_true h2, Bool.true_and]
   rw [hcv]
   by_cases h3 : bt s (p + 1 + x) / 64 = 2
   ·rw [show ((((bt s (p + 1 + x) / 64 : Nat) : Int)) != 2) = false by rw [h3]; rfl, show (bt s (p + 1 + x) / 64 == 2) = true by rw [h3]; rfl, w64 (n := 64 * (b : Int)) (by omega) (by omega), w64 (n := 64 * (b : Int) + _) (by omega) (by omega), w64 (n := (x : Int) + 1) (by omega) (by omega)]
    simp only [cond_false, if_true]
    congr 1
   ·rw [show ((((bt s (p + 1 + x) / 64 : Nat) : Int)) != 2) = true by rw [bne_iff_ne]; omega, show (bt s (p + 1 + x) / 64 == 2) = false by rw [beq_eq_false_iff_ne]; exact h3]
    rfl
  ·rw [decide_eq_true (show (p : Int) + 1 + (x : Int) ≥ ((s.length : Nat) : Int) by omega), if_neg (by unfold cont; rw [decide_eq_false h2]; simp)]
   rfl
 ·rw [if_neg h1, decide_eq_false (show ¬ (x : Int) < (vn : Int) by omega), w64 (n := (vn : Int) + 1) (by omega) (by omega)]
  unfold endE
  simp only [cond_false]
  by_cases q1 : b < least
  ·rw [decide_eq_true (show (b : Int) < (least : Int) by omega), if_pos (.inl q1)]; rfl
  rw [decide_eq_false (show ¬ (b : Int) < (least : Int) by omega)]
  by_cases q2 : b > 1114111
  ·rw [decide_eq_true (show (b : Int) > 1114111 by omega), if_pos (.inr (.inl q2))]; rfl
  rw [decide_eq_false (show ¬ (b : Int) > 1114111 by omega)]
  by_cases q3 : 55296 ≤ b
  ·rw [decide_eq_true (show (b : Int) ≥ 55296 by omega)]
   by_cases q4 : b < 57344
   ·rw [decide_eq_true (show (b : Int) < 57344 by omega), if_pos (.inr (.inr ⟨q3, q4⟩))]; rfl
   ·rw [decide_eq_false (show ¬ (b : Int) < 57344 by omega), if_neg (by omega)]; rfl
  ·rw [decide_eq_false (show ¬ (b : Int) ≥ 55296 by omega), if_neg (by omega)]; rfl
theorem rune2 (n : Nat) (s : Tx) (p b : Nat) (hp : p < 9223372036854775000) (hb : b < 64) (hn : 10 < n) :
  F109_j3 n s (p : Int) ((b : Int), 1, 128) = if cont s (p + 1) = true then endE (64 * b + bt s (p + 1) % 64) 128 1 else some (65533, 1) := by
 obtain ⟨m, rfl⟩ : ∃ m, n = m + 5 := ⟨n - 5, by omega⟩
 show F109_l4 (m + 5) s (p : Int) ((1 : Nat) : Int) ((128 : Nat) : Int) (loopF (F109_l4 (m + 5) s (p : Int) ((1 : Nat) : Int) ((128 : Nat) : Int)) (m + 4)) ((b : Int), ((0 : Nat) : Int)) = _
 rw [stepE _ _ _ _ _ _ _ _ hp (by omega) (by omega) (by omega), if_pos (by omega), Nat.add_zero]
 by_cases c1 : cont s (p + 1) = true
 ·rw [if_pos c1, if_pos c1]
  show F109_l4 (m + 5) s (p : Int) ((1 : Nat) : Int) ((128 : Nat) : Int) (loopF (F109_l4 (m + 5) s (p : Int) ((1 : Nat) : Int) ((128 : Nat) : Int)) (m + 3)) _ = _
  rw [stepE _ _ _ _ _ _ _ _ hp (by omega) (by omega) (by omega), if_neg (by omega)]
 ·rw [if_neg c1, if_neg c1]
theorem rune3 (n : Nat) (s : Tx) (p b : Nat) (hp : p < 9223372036854775000) (hb : b < 64) (hn : 10 < n) :
  F109_j3 n s (p : Int) ((b : Int), 2, 2048) = if cont s (p + 1) = true ∧ cont s (p + 2) = true then endE (64 * (64 * b + bt s (p + 1) % 64) + bt s (p + 2) % 64) 2048 2 else some (65533, 1) := by
 obtain ⟨m, rfl⟩ : ∃ m, n = m + 5 := ⟨n - 5, by omega⟩
 show F109_l4 (m + 5) s (p : Int) ((2 : Nat) : Int) ((2048 : Nat) : Int) (loopF (F109_l4 (m + 5) s (p : Int) ((2 : Nat) : Int) ((2048 : Nat) : Int)) (m + 4)) ((b : Int), ((0 : Nat) : Int)) = _
 rw [stepE _ _ _ _ _ _ _ _ hp (by omega) (by omega) (by omega), if_pos (by omega), Nat.add_zero]
 by_cases c1 : cont s (p + 1) = true
 ·rw [if_pos c1]
  show F109_l4 (m + 5) s (p : Int) ((2 : Nat) : Int) ((2048 : Nat) : Int) (loopF (F109_l4 (m + 5) s (p : Int) ((2 : Nat) : Int) ((2048 : Nat) : Int)) (m + 3)) _ = _
  rw [stepE _ _ _ _ _ _ _ _ hp (by omega) (by omega) (by omega), if_pos (by omega), show p + 1 + (0 + 1) = p + 2 by omega]
  by_cases c2 : cont s (p + 2) = true
  ·rw [if_pos c2, if_pos ⟨c1, c2⟩]
   show F109_l4 (m + 5) s (p : Int) ((2 : Nat) : Int) ((2048 : Nat) : Int) (loopF (F109_l4 (m + 5) s (p : Int) ((2 : Nat) : Int) ((2048 : Nat) : Int)) (m + 2)) _ = _
   rw [stepE _ _ _ _ _ _ _ _ hp (by omega) (by omega) (by omega), if_neg (by omega)]
  ·rw [if_neg c2, if_neg (fun h => c2 h.2)]
 ·rw [if_neg c1, if_neg (fun h => c1 h.1)]
theorem rune4 (n : Nat) (s : Tx) (p b : Nat) (hp : p < 9223372036854775000) (hb : b < 64) (hn : 10 < n) :
  F109_j3 n s (p : Int) ((b : Int), 3, 65536) = if cont s (p + 1) = true ∧ cont s (p + 2) = true ∧ cont s (p + 3) = true then endE (64 * (64 * (64 * b + bt s (p + 1) % 64) + bt s (p + 2) % 64) + bt s (p + 3) % 64) 65536 3 else some (65533, 1) := by
 obtain ⟨m, rfl⟩ : ∃ m, n = m + 5 := ⟨n - 5, by omega⟩
 show F109_l4 (m + 5) s (p : Int) ((3 : Nat) : Int) ((65536 : Nat) : Int) (loopF (F109_l4 (m + 5) s (p : Int) ((3 : Nat) : Int) ((65536 : Nat) : Int)) (m + 4)) ((b : Int), ((0 : Nat) : Int)) = _
 rw [stepE _ _ _ _ _ _ _ _ hp (by omega) (by omega) (by omega), if_pos (by omega), Nat.add_zero]
 by_cases c1 : cont s (p + 1) = true
 ·rw [if_pos c1]
  show F109_l4 (m + 5) s (p : Int) ((3 : Nat) : Int) ((65536 : Nat) : Int) (loopF (F109_l4 (m + 5) s (p : Int) ((3 : Nat) : Int) ((65536 : Nat) : Int)) (m + 3)) _ = _
  rw [stepE _ _ _ _ _ _ _ _ hp (by omega) (by omega) (by omega), if_pos (by omega), show p + 1 + (0 + 1) = p + 2 by omega]
  by_cases c2 : cont s (p + 2) = true
  ·rw [if_pos c2]
   show F109_l4 (m + 5) s (p : Int) ((3 : Nat) : Int) ((65536 : Nat) : Int) (loopF (F109_l4 (m + 5) s (p : Int) ((3 : Nat) : Int) ((65536 : Nat) : Int)) (m + 2)) _ = _
   rw [stepE _ _ _ _ _ _ _ _ hp (by omega) (by omega) (by omega), if_pos (by omega), show p + 1 + (0 + 1 + 1) = p + 3 by omega]
   by_cases c3 : cont s (p + 3) = true
   ·rw [if_pos c3, if_pos ⟨c1, c2, c3⟩]
    show F109_l4 (m + 5) s (p : Int) ((3 : Nat) : Int) ((65536 : Nat) : Int) (loopF (F109_l4 (m + 5) s (p : Int) ((3 : Nat) : Int) ((65536 : Nat) : Int)) (m + 1)) _ = _
    rw [stepE _ _ _ _ _ _ _ _ hp (by omega) (by omega) (by omega), if_neg (by omega)]
   ·rw [if_neg c3, if_neg (fun h => c3 h.2.2)]
  ·rw [if_neg c2, if_neg (fun h => c2 h.2.1)]
 ·rw [if_neg c1, if_neg (fun h => c1 h.1)]
theorem runeR (n : Nat) (s : Tx) (p : Nat) (h : p < s.length) (hs : s.length < 9223372036854775000) (hn : 10 < n) : F109 n s (p : Int) = some (((runeV s p).1 : Int), ((runeV s p).2 : Int)) := by
 have hb := bt_lt s p
 unfold F109
 rw [inb_true (show (0 : Int) ≤ p by omega) (show (p : Int) < s.length by omega), Int.toNat_natCast, W8]
 have V : ∀ a b : Nat, runeV s p = (a, b) → some ((a : Int), (b : Int)) = some (((runeV s p).1 : Int), ((runeV s p).2 : Int)) := by intro a b e; rw [e]
 simp only [cond_true]
 by_cases h1 : bt s p < 128
 ·rw [decide_eq_true (show ((bt s p : Nat) : Int) < 128 by omega)]
  exact V _ _ (by unfold runeV; rw [if_pos h1])
 rw [decide_eq_false (show ¬ ((bt s p : Nat) : Int) < 128 by omega)]
 simp only [cond_false]
 by_cases h2 : bt s p < 192
 ·simp only [decide_eq_false (show ¬ ((bt s p : Nat) : Int) ≥ 192 by omega), decide_eq_false (show ¬ ((bt s p : Nat) : Int) ≥ 224 by omega), decide_eq_false (show ¬ ((bt s p : Nat) : Int) ≥ 240 by omega), cond_false]
  exact V 65533 1 (by unfold runeV; rw [if_neg h1, if_neg (by omega), if_neg (by omega), if_neg (by omega)])
 simp only [decide_eq_true (show ((bt s p : Nat) : Int) ≥ 192 by omega), cond_true]
 by_cases h3 : bt s p < 224
 ·simp only [decide_eq_true (show ((bt s p : Nat) : Int) < 224 by omega), cond_true]
  rw [w64 (n := ((bt s p : Nat) : Int) - 192) (by omega) (by omega), show ((bt s p : Nat) : Int) - 192 = ((bt s p % 32 : Nat) : Int) by omega, rune2 n s p _ (by omega) (by omega) hn]
  by_cases c1 : cont s (p + 1) = true
  ·rw [if_pos c1]
   unfold endE
   have := bt_lt s (p + 1)
   by_cases q : 128 ≤ (bt s p % 32) * 64 + bt s (p + 1) % 64
   ·rw [if_neg (by omega), show 64 * (bt s p % 32) + bt s (p + 1) % 64 = (bt s p % 32) * 64 + bt s (p + 1) % 64 by omega]
    exact V _ 2 (by unfold runeV; rw [if_neg h1, if_pos ⟨by omega, c1⟩, if_pos q])
   ·rw [if_pos (by omega)]
    exact V 65533 1 (by unfold runeV; rw [if_neg h1, if_pos ⟨by omega, c1⟩, if_neg q])
  ·rw [if_neg c1]
   exact V 65533 1 (by unfold runeV; rw [if_neg h1, if_neg (fun h => c1 h.2), if_neg (fun h => c1 h.2.1), if_neg (fun h => c1 h.2.1)])
 simp only [decide_eq_false (show ¬ ((bt s p : Nat) : Int) < 224 by omega), decide_eq_true (show ((bt s p : Nat) : Int) ≥ 224 by omega), cond_true, cond_false]
 by_cases h4 : bt s p < 240
 ·simp only [decide_eq_true (show ((bt s p : Nat) : Int) < 240 by omega), cond_true]
  rw [w64 (n := ((bt s p : Nat) : Int) - 224) (by omega) (by omega), show ((bt s p : Nat) : Int) - 224 = ((bt s p % 16 : Nat) : Int) by omega, rune3 n s p _ (by omega) (by omega) hn]
  by_cases c1 : cont s (p + 1) = true ∧ cont s (p + 2) = true
  ·rw [if_pos c1]
   unfold endE
   have := bt_lt s (p + 1)
   have := bt_lt s (p + 2)
   have ev : 64 * (64 * (bt s p % 16) + bt s (p + 1) % 64) + bt s (p + 2) % 64 = (bt s p % 16) * 4096 + (bt s (p + 1) % 64) * 64 + bt s (p + 2) % 64 := by omega
   rw [ev]
   have pre : runeV s p = if 2048 ≤ (bt s p % 16) * 4096 + (bt s (p + 1) % 64) * 64 + bt s (p + 2) % 64 ∧ validN ((bt s p % 16) * 4096 + (bt s (p + 1) % 64) * 64 + bt s (p + 2) % 64) = true then ((bt s p % 16) * 4096 + (bt s (p + 1) % 64) * 64 + bt s (p + 2) % 64, 3) else (65533, 1) := by
    unfold runeV; rw [if_neg h1, if_neg (by omega), if_pos ⟨by omega, c1⟩]
   generalize (bt s p % 16) * 4096 + (bt s (p + 1) % 64) * 64 + bt s (p + 2) % 64 = c at *
   by_cases q : c < 2048 ∨ c > 1114111 ∨ (55296 ≤ c ∧ c < 57344)
   ·rw [if_pos q]
    exact V 65533 1 (by rw [pre, if_neg]; simp only [validN, Bool.or_eq_true, Bool.and_eq_true, decide_eq_true_eq]; omega)
   ·rw [if_neg q]
    exact V c 3 (by rw [pre, if_pos]; simp only [validN, Bool.or_eq_true, Bool.and_eq_true, decide_eq_true_eq]; omega)
  ·rw [if_neg c1]
   exact V 65533 1 (by unfold runeV; rw [if_neg h1, if_neg (by omega), if_neg (fun h => c1 h.2), if_neg (by omega)])
 simp only [decide_eq_false (show ¬ ((bt s p : Nat) : Int) < 240 by omega), decide_eq_true (show ((bt s p : Nat) : Int) ≥ 240 by omega), cond_true, cond_false]
 by_cases h5 : bt s p < 248
 ·simp only [decide_eq_true (show ((bt s p : Nat) : Int) < 248 by omega), cond_true]
  rw [w64 (n := ((bt s p : Nat) : Int) - 240) (by omega) (by omega), show ((bt s p : Nat) : Int) - 240 = ((bt s p % 8 : Nat) : Int) by omega, rune4 n s p _ (by omega) (by omega) hn]
  by_cases c1 : cont s (p + 1) = true ∧ cont s (p + 2) = true ∧ cont s (p + 3) = true
  ·rw [if_pos c1]
   unfold endE
   have := bt_lt s (p + 1)
   have := bt_lt s (p + 2)
   have := bt_lt s (p + 3)
   have ev : 64 * (64 * (64 * (bt s p % 8) + bt s (p + 1) % 64) + bt s (p + 2) % 64) + bt s (p + 3) % 64 = (bt s p % 8) * 262144 + (bt s (p + 1) % 64) * 4096 + (bt s (p + 2) % 64) * 64 + bt s (p + 3) % 64 := by omega
   rw [ev]
   have pre : runeV s p = if 65536 ≤ (bt s p % 8) * 262144 + (bt s (p + 1) % 64) * 4096 + (bt s (p + 2) % 64) * 64 + bt s (p + 3) % 64 ∧ validN ((bt s p % 8) * 262144 + (bt s (p + 1) % 64) * 4096 + (bt s (p + 2) % 64) * 64 + bt s (p + 3) % 64) = true then ((bt s p % 8) * 262144 + (bt s (p + 1) % 64) * 4096 + (bt s (p + 2) % 64) * 64 + bt s (p + 3) % 64, 4) else (65533, 1) := by
    unfold runeV; rw [if_neg h1, if_neg (by omega), if_neg (by omega), if_pos ⟨by omega, c1⟩]
   generalize (bt s p % 8) * 262144 + (bt s (p + 1) % 64) * 4096 + (bt s (p + 2) % 64) * 64 + bt s (p + 3) % 64 = c at *
   by_cases q : c < 65536 ∨ c > 1114111 ∨ (55296 ≤ c ∧ c < 57344)
   ·rw [if_pos q]
    exact V 65533 1 (by rw [pre, if_neg]; simp only [validN, Bool.or_eq_true, Bool.and_eq_true, decide_eq_true_eq]; omega)
   ·rw [if_neg q]
    exact V c 4 (by rw [pre, if_pos]; simp only [validN, Bool.or_eq_true, Bool.and_eq_true, decide_eq_true_eq]; omega)
  ·rw [if_neg c1]
   exact V 65533 1 (by unfold runeV; rw [if_neg h1, if_neg (by omega), if_neg (by omega), if_neg (fun h => c1 h.2)])
 ·simp only [decide_eq_false (show ¬ ((bt s p : Nat) : Int) < 248 by omega), cond_false]
  exact V 65533 1 (by unfold runeV; rw [if_neg h1, if_neg (by omega), if_neg (by omega), if_neg (by omega)])
set_option maxRecDepth 100000
def rl (s : Tx) : Nat → Nat → List Nat
 | 0, _ => []
 | f + 1, p => if p < s.length then (runeV s p).1 :: rl s f (p + (runeV s p).2) else []
theorem rl_fuel (s : Tx) : ∀ f f' p, s.length - p ≤ f → s.length - p ≤ f' → rl s f p = rl s f' p
 | 0, 0, p, _, _ => rfl
 | 0, f' + 1, p, h, _ => by simp only [rl]; rw [if_neg (by omega)]
 | f + 1, 0, p, _, h => by simp only [rl]; rw [if_neg (by omega)]
 | f + 1, f' + 1, p, h, h' => by
  simp only [rl]
  have := (runeV_w s p).1
  split
  ·rw [rl_fuel s f f' _ (by omega) (by omega)]
  ·rfl
def runes (s : Tx) (p : Nat) : List Nat := rl s (s.length - p) p
theorem runes_step (s : Tx) (p : Nat) (h : p < s.length) : runes s p = (runeV s p).1 :: runes s (p + (runeV s p).2) := by
 have := (runeV_w s p).1
 unfold runes
 obtain ⟨f, hf⟩ : ∃ f, s.length - p = f + 1 := ⟨s.length - p - 1, by omega⟩
 rw [hf]
 simp only [rl]
 rw [if_pos h, rl_fuel s f (s.length - (p + (runeV s p).2)) _ (by omega) (by omega)]
theorem runes_end (s : Tx) (p : Nat) (h : ¬ p < s.length) : runes s p = [] := by unfold runes; rw [show s.length - p = 0 by omega]; rfl
theorem rl_le (s : Tx) : ∀ f p, ∀ r ∈ rl s f p, r ≤ 1114111
 | 0, p, r, h => by cases h
 | f + 1, p, r, h => by
  simp only [rl] at h
  split at h
  ·rcases List.mem_cons.1 h with rfl | h
   ·exact (runeV_w s p).2.2
   ·exact rl_le s f _ r h
  ·cases h
theorem rl_len (s : Tx) : ∀ f p, (rl s f p).length ≤ f
 | 0, p => Nat.le_refl _
 | f + 1, p => by
  simp only [rl]
  split
  ·have := rl_len s f (p + (runeV s p).2); rw [List.length_cons]; omega
  ·simp
theorem runesR (n : Nat) (s : Tx) (hs : s.length ≤ 2000000) (hn : s.length + 20 < n) : F99 n s = some ((runes s 0).map fun r : Nat => (r : Int)) := by
 unfold F99
 refine (loopF_eq (F99_l2 n s) (fun d => some (d.2 ++ (runes s d.1.toNat).map fun r : Nat => (r : Int))) (fun d => ∃ p : Nat, d.1 = (p : Int) ∧ p ≤ s.length + 4 ∧ d.2.length ≤ p) (fun d => s.length - d.1.toNat) ?_ n (0, []) ⟨0, rfl, by omega, by simp⟩ (by simp; omega)).trans (by simp)
 rintro k ⟨_, m⟩ ⟨p, rfl, hp, hm⟩ ih
 simp only at hm
 simp only [F99_l2, Int.toNat_natCast]
 have hw := runeV_w s p
 by_cases h : p < s.length
 ·rw [decide_eq_true (show (p : Int) < (s.length : Int) by omega), runeR n s p h (by omega) (by omega)]
  simp only [cond_true, Option.bind_some]
  rw [decide_eq_true (by simp only [List.length_singleton]; omega), w64 (by omega) (by omega)]
  simp only [cond_true]
  rw [ih _ ⟨p + (runeV s p).2, by simp, by omega, by simp only [List.length_append, List.length_singleton]; omega⟩ (by simp only [Int.toNat_natCast]; omega), runes_step s p h]
  have e : ((p : Int) + ((runeV s p).2 : Int)).toNat = p + (runeV s p).2 := by omega
  simp only [e, List.map_cons, List.append_assoc, List.singleton_append]
 ·rw [decide_eq_false (show ¬ (p : Int) < (s.length : Int) by omega), runes_end s p h]
  simp
def two (m : Nat) : Tx := [UInt8.ofNat (m % 256), UInt8.ofNat (m / 256 % 256)]
def tb (r : Nat) : Tx := if r < 65536 then two r else two (55296 + (r - 65536) / 1024) ++ two (56320 + (r - 65536) % 1024)
def cnt (r : Nat) : Nat := if r < 65536 then 1 else 2
def cntL : List Nat → Nat
 | [] => 0
 | r :: l => cnt r + cntL l
theorem tb_len (r : Nat) : (tb r).length = 2 * cnt r := by
 unfold tb cnt
 split <;> rfl
theorem tbL_len : ∀ l : List Nat, (l.flatMap tb).length = 2 * cntL l
 | [] => rfl
 | r :: l => by rw [List.flatMap_cons, List.length_append, tb_len, tbL_len l, cntL]; omega
theorem twoR (n m : Nat) (hm : m < 1000000) : F72 n (m : Int) = some (two m) := by
 unfold F72 two
 rw [Int.tmod_eq_emod_of_nonneg (show (0 : Int) ≤ m by omega), Int.tdiv_eq_ediv_of_nonneg (show (0 : Int) ≤ m by omega), w64 (n := (m : Int) / 256) (by omega) (by omega), Int.tmod_eq_emod_of_nonneg (show (0 : Int) ≤ (m : Int) / 256 by omega), u8w, u8w]
 have e1 : ((m : Int) % 256 % 256).toNat = m % 256 := by omega
 have e2 : ((m : Int) / 256 % 256 % 256).toNat = m / 256 % 256 := by omega
 simp only [strOf, List.map_cons, List.map_nil, e1, e2]
theorem map_getD (l : List Nat) (k : Nat) : (l.map fun r : Nat => (r : Int)).getD k 0 = ((l.getD k 0 : Nat) : Int) := by
 rw [List.getD_eq_getElem?_getD, List.getD_eq_getElem?_getD, List.getElem?_map]
 cases l[k]? <;> rfl
theorem dropD {α : Type} (d : α) : ∀ (l : List α) (k : Nat), k < l.length → l.drop k = l.getD k d :: l.drop (k + 1)
 | [], k, h => by simp at h
 | x :: l, 0, h => rfl
 | x :: l, k + 1, h => by simpa using dropD d l k (by simpa using h)
def wideV (rs : List Nat) : Tx × Int := if 126 < cntL rs then ([], 2) else (rs.flatMap tb, 0)
theorem w32 {n : Int} (h1 : -2147483648 ≤ n) (h2 : n ≤ 2147483647) : IntKind.wrap .i32 n = n := by
 have e : IntKind.wrap .i32 n = if n % 4294967296 ≥ 2147483648 then n % 4294967296 - 4294967296 else n % 4294967296 := by
  simp [IntKind.wrap, IntKind.bits, IntKind.signed]
 rw [e]
 split <;> omega
theorem bv32 (x : Nat) (h : x < 4294967296) : (BitVec.ofInt 32 (x : Int)).toNat = x := by
 rw [BitVec.toNat_ofInt]
 omega
theorem bAnd32 (x : Nat) (h : x < 2147483648) : bitsI .and .i32 (x : Int) 1023 = ((x % 1024 : Nat) : Int) := by
 have hx : x &&& 1023 = x % 1024 := Nat.and_two_pow_sub_one_eq_mod x 10
 show IntKind.i32.wrap ((BitVec.ofInt 32 (x : Int) &&& BitVec.ofInt 32 ((1023 : Nat) : Int)).toNat : Int) = _
 rw [BitVec.toNat_and, bv32 x (by omega), bv32 1023 (by omega), hx, w32 (by omega) (by omega)]
theorem bOr32 (a b : Nat) (ha : a < 256) (hb : b < 256) : bitsI .or .i32 (a : Int) ((b * 256 : Nat) : Int) = ((a + 256 * b : Nat) : Int) := by
 have hx : a ||| b * 256 = a + b * 256 := nat_or_add a b 8 (by omega)
 show IntKind.i32.wrap ((BitVec.ofInt 32 (a : Int) ||| BitVec.ofInt 32 ((b * 256 : Nat) : Int)).toNat : Int) = _
 rw [BitVec.toNat_or, bv32 a (by omega), bv32 (b * 256) (by omega), hx, w32 (by omega) (by omega)]
 omega
theorem shl32 (x j m : Nat) (hm : m = 2 ^ j) (hj : j ≤ 32) (h : x * m < 2147483648) : shlI .i32 (x : Int) (j : Int) = ((x * m : Nat) : Int) := by
 subst hm
 unfold shlI
 rw [Int.toNat_natCast, Nat.min_eq_left (by simpa [IntKind.bits] using hj)]
 have e : (x : Int) * 2 ^ j = ((x * 2 ^ j : Nat) : Int) := by simp
 rw [e, w32 (by omega) (by omega)]
theorem hi32 (d : Nat) (h : d < 1048576) : IntKind.wrap .i32 (55296 + shrI .i32 (d : Int) 10) = ((55296 + d / 1024 : Nat) : Int) := by
 have s10 := shr_div .i32 (d : Int) 10 (by decide)
 rw [show ((10 : Nat) : Int) = 10 from rfl, show (2 : Int) ^ 10 = 1024 by decide] at s10
 rw [s10, w32 (by omega) (by omega)]; omega
theorem lo32 (d : Nat) (h : d < 1048576) : IntKind.wrap .i32 (56320 + bitsI .and .i32 (d : Int) 1023) = ((56320 + d % 1024 : Nat) : Int) := by
 rw [bAnd32 _ (by omega), w32 (by omega) (by omega)]; omega
theorem sub32 (r d : Nat) (h : d < 1048576) (e : r = d + 65536) : IntKind.wrap .i32 ((r : Int) - 65536) = (d : Int) := by
 rw [w32 (by omega) (by omega)]; omega
theorem tb_big (r d : Nat) (e : r = d + 65536) : tb r = two (55296 + d / 1024) ++ two (56320 + d % 1024) := by
 have hb : ¬ r < 65536 := by omega
 unfold tb
 rw [if_neg hb, show r - 65536 = d by omega]
theorem hi64 (r d : Nat) (h : d < 1048576) (e : r = d + 65536) : IntKind.wrap .i64 (55296 + IntKind.wrap .i64 ((IntKind.wrap .i64 ((r : Int) - 65536)).tdiv 1024)) = ((55296 + d / 1024 : Nat) : Int) := by
 rw [w64 (n := (r : Int) - 65536) (by omega) (by omega), show (r : Int) - 65536 = (d : Int) by omega, Int.tdiv_eq_ediv_of_nonneg (by omega), w64 (n := (d : Int) / 1024) (by omega) (by omega), w64 (by omega) (by omega)]; omega
theorem lo64 (r d : Nat) (h : d < 1048576) (e : r = d + 65536) : IntKind.wrap .i64 (56320 + (IntKind.wrap .i64 ((r : Int) - 65536)).tmod 1024) = ((56320 + d % 1024 : Nat) : Int) := by
 rw [w64 (n := (r : Int) - 65536) (by omega) (by omega), show (r : Int) - 65536 = (d : Int) by omega, Int.tmod_eq_emod_of_nonneg (by omega), w64 (by omega) (by omega)]; omega
theorem pairB (m : Nat) (hm : m < 1000000) : strOf [IntKind.wrap .u8 (m : Int), IntKind.wrap .u8 (shrI .i32 (m : Int) 8)] = two m := by
 have s8 := shr_div .i32 (m : Int) 8 (by decide)
 rw [show ((8 : Nat) : Int) = 8 from rfl, show (2 : Int) ^ 8 = 256 by decide] at s8
 rw [s8, u8w, u8w]
 have e1 : ((m : Int) % 256).toNat = m % 256 := by omega
 have e2 : ((m : Int) / 256 % 256).toNat = m / 256 % 256 := by omega
 simp only [strOf, List.map_cons, List.map_nil, e1, e2]; rfl
theorem wideR (n : Nat) (s : Tx) (hs : s.length ≤ 2000000) (hn : s.length + 20 < n) : F74 n s = some (wideV (runes s 0)) := by
 have hle : ∀ r ∈ runes s 0, r ≤ 1114111 := rl_le s _ 0
 have hlen : (runes s 0).length ≤ s.length := rl_len s s.length 0
 unfold F74
 rw [runesR n s hs hn, Option.bind_some]
 generalize runes s 0 = rs at *
 refine (loopF_eq (F74_l12 n (rs.map fun r : Nat => (r : Int))) (fun d => if 126 < d.2.1.toNat + cntL (rs.drop d.2.2.toNat) then some ([], 2) else some (d.1 ++ (rs.drop d.2.2.toNat).flatMap tb, 0)) (fun d => ∃ v k : Nat, d.2.1 = (v : Int) ∧ d.2.2 = (k : Int) ∧ v ≤ 126 ∧ k ≤ rs.length ∧ d.1.length = 2 * v) (fun d => rs.length - d.2.2.toNat) ?_ n ([], 0, 0) ⟨0, 0, rfl, rfl, by omega, by omega, rfl⟩ (by simp; omega)).trans (by unfold wideV; simp only [Int.toNat_zero, List.drop_zero, List.nil_append, Nat.zero_add]; split <;> rfl)
 rintro kk ⟨vo, _, _⟩ ⟨v, k, rfl, rfl, hv, hk, hvo⟩ ih
 simp only at hvo
 simp only [F74_l12, Int.toNat_natCast, List.length_map]
 by_cases h : k < rs.length
 ·rw [decide_eq_true (show (k : Int) < ((rs.length : Nat) : Int) by omega), inb_true (show (0 : Int) ≤ k by omega) (show (k : Int) < rs.length by omega), dropD 0 rs k h]
  simp only [cond_true, map_getD]
  have hr : rs.getD k 0 ≤ 1114111 := hle _ (by rw [List.getD_eq_getElem?_getD, List.getElem?_eq_getElem h]; exact List.getElem_mem h)
  have w1 : IntKind.wrap .i64 ((v : Int) + 1) = ((v + 1 : Nat) : Int) := by rw [w64 (by omega) (by omega)]; omega
  have w2 : IntKind.wrap .i64 (((v + 1 : Nat) : Int) + 1) = ((v + 2 : Nat) : Int) := by rw [w64 (by omega) (by omega)]; omega
  have wk : IntKind.wrap .i64 ((k : Int) + 1) = ((k + 1 : Nat) : Int) := by rw [w64 (by omega) (by omega)]; omega
  rw [w1, w2]
  simp only [F74_j13, F74_j14, map_getD, Int.toNat_natCast, wk]
  generalize hrr : rs.getD k 0 = r at *
  by_cases hb : r < 65536
  ·rw [decide_eq_false (show ¬ (r : Int) > 65535 by omega)]
   simp only [cond_false]
   have c1 : cnt r = 1 := if_pos hb
   have t1 : tb r = two r := if_pos hb
   by_cases hv2 : v + 1 > 126
   ·rw [decide_eq_true (show ((v + 1 : Nat) : Int) > 126 by omega), if_pos (by simp only [cntL, c1]; omega)]; rfl
   ·rw [decide_eq_false (show ¬ ((v + 1 : Nat) : Int) > 126 by omega), twoR n r (by omega)]
    simp only [cond_false, Option.bind_some]
    rw [decide_eq_true (by simp [two]; omega)]
    simp only [cond_true]
    rw [ih _ ⟨v + 1, k + 1, rfl, rfl, by omega, by omega, by simp [two]; omega⟩ (by simp only [Int.toNat_natCast]; omega)]
    simp only [Int.toNat_natCast, cntL, c1, List.flatMap_cons, t1, List.append_assoc, Nat.add_assoc]
  ·obtain ⟨d, hd⟩ : ∃ d, r = d + 65536 := ⟨r - 65536, by omega⟩
   have hd2 : d < 1048576 := by omega
   rw [decide_eq_true (show (r : Int) > 65535 by omega)]
   simp only [cond_true]
   have c1 : cnt r = 2 := if_neg hb
   have t1 := tb_big r d hd
   have e1 := hi64 r d hd2 hd
   have e2 := lo64 r d hd2 hd
   clear hd hb hr hrr
   by_cases hv2 : v + 2 > 126
   ·rw [decide_eq_true (show ((v + 2 : Nat) : Int) > 126 by omega), if_pos (by simp only [cntL, c1]; omega)]; rfl
   ·rw [decide_eq_false (show ¬ ((v + 2 : Nat) : Int) > 126 by omega), e1, e2, twoR n _ (by omega), twoR n _ (by omega)]
    simp only [cond_false, Option.bind_some]
    rw [decide_eq_true (by simp [two]; omega), decide_eq_true (by simp [two]; omega)]
    simp only [cond_true]
    rw [ih _ ⟨v + 2, k + 1, rfl, rfl, by omega, by omega, by simp [two]; omega⟩ (by simp only [Int.toNat_natCast]; omega)]
    simp only [Int.toNat_natCast, cntL, c1, List.flatMap_cons, t1, List.append_assoc, Nat.add_assoc]
 ·rw [decide_eq_false (show ¬ (k : Int) < ((rs.length : Nat) : Int) by omega), List.drop_eq_nil_of_le (by omega), if_neg (by simp only [cntL]; omega)]
  simp
theorem wideP (n : Nat) (s : Tx) (hs : s.length ≤ 2000000) (hn : s.length + 20 < n) : F57 n s = some (wideV (runes s 0)) := by
 unfold F57
 refine (loopF_eq (F57_l2 n s) (fun d => if 252 < d.1.length + ((runes s d.2).flatMap tb).length then some ([], 2) else some (strOf d.1 ++ (runes s d.2).flatMap tb, 0)) (fun d => d.2 ≤ s.length + 4 ∧ d.1.length ≤ 4 * d.2) (fun d => s.length - d.2) ?_ n ([], 0) ⟨by simp, by simp⟩ (by simp; omega)).trans (by
  unfold wideV
  simp only [List.length_nil, Nat.zero_add, tbL_len]
  by_cases h : 126 < cntL (runes s 0)
  ·rw [if_pos (by omega), if_pos h]
  ·rw [if_neg (by omega), if_neg h]; rfl)
 rintro k ⟨m, p⟩ ⟨hp, hm⟩ ih
 simp only at hp hm
 simp only [F57_l2]
 by_cases h : p < s.length
 ·have hw := runeV_w s p
  rw [decide_eq_true h, runeAt_V s p h, runes_step s p h]
  simp only [cond_true, List.flatMap_cons]
  generalize hr : (runeV s p).1 = r at *
  generalize hq : (runeV s p).2 = q at *
  by_cases hb : r < 65536
  ·have t1 : tb r = two r := if_pos hb
   rw [decide_eq_true (show (r : Int) < 65536 by omega), decide_eq_true (by simp only [List.length_cons, List.length_nil]; omega)]
   simp only [cond_true]
   have b1 := pairB r (by omega)
   rw [ih _ ⟨by simp only; omega, by simp only [List.length_append, List.length_cons, List.length_nil]; omega⟩ (by simp only; omega), t1, strOf_app, b1]
   simp only [List.append_assoc]
   have hL : ∀ X : List UInt8, (two r ++ X).length = 2 + X.length := fun X => by simp [two]; omega
   rw [hL]
   generalize (runes s (p + q)).flatMap tb = X
   split <;> split <;> first | rfl | (exfalso; simp only [List.length_append, List.length_cons, List.length_nil] at *; omega)
  ·obtain ⟨d, hd⟩ : ∃ d, r = d + 65536 := ⟨r - 65536, by omega⟩
   have hd2 : d < 1048576 := by omega
   have t1 := tb_big r d hd
   have e0 := sub32 r d hd2 hd
   have e1 := hi32 d hd2
   have e2 := lo32 d hd2
   rw [decide_eq_false (show ¬ (r : Int) < 65536 by omega)]
   obtain ⟨hw1, hw2, _⟩ := hw
   clear hd hb
   simp only [e0, e1, e2, cond_false]
   rw [decide_eq_true (by simp only [List.length_cons, List.length_nil]; omega), decide_eq_true (by simp only [List.length_append, List.length_cons, List.length_nil]; omega)]
   simp only [cond_true]
   have b1 := pairB (55296 + d / 1024) (by omega)
   have b2 := pairB (56320 + d % 1024) (by omega)
   rw [ih _ ⟨by simp only; omega, by simp only [List.length_append, List.length_cons, List.length_nil]; omega⟩ (by simp only; omega), t1, strOf_app, strOf_app, b1, b2]
   have l1 := congrArg List.length b1
   have l2 := congrArg List.length b2
   simp only [List.append_assoc]
   have hL : ∀ X : List UInt8, (two (55296 + d / 1024) ++ (two (56320 + d % 1024) ++ X)).length = 4 + X.length := fun X => by simp [two]; omega
   rw [hL]
   generalize (runes s (p + q)).flatMap tb = X
   split <;> split <;> first | rfl | (exfalso; simp only [List.length_append, List.length_cons, List.length_nil] at *; omega)
 ·rw [decide_eq_false h, runes_end s p h]
  simp only [cond_false, List.flatMap_nil, List.length_nil, Nat.add_zero, List.append_nil]
  by_cases h2 : 252 < m.length
  ·rw [if_pos h2, decide_eq_true (show ((m.length : Nat) : Int) > 252 by omega)]; rfl
  ·rw [if_neg h2, decide_eq_false (show ¬ ((m.length : Nat) : Int) > 252 by omega)]; rfl
theorem loopF_congr {D R : Type} (b b' : (D → Option R) → D → Option R) (h : ∀ k d, b k d = b' k d) : ∀ n d, loopF b n d = loopF b' n d
 | 0, _ => rfl
 | n + 1, d => by
  have : loopF b n = loopF b' n := funext (loopF_congr b b' h n)
  simp only [loopF, this, h]
theorem wide_len2 (rs : List Nat) : (wideV rs).1.length ≤ 252 := by
 unfold wideV
 split
 ·simp
 ·simp only [tbL_len]; omega
def textV (t : Tx) : Tx × Int := if (wideV (runes t 0)).2 ≠ 0 then ([], (wideV (runes t 0)).2) else (putV [(((wideV (runes t 0)).1.length : Nat) : Int) + 2, 3] ++ (wideV (runes t 0)).1, 0)
theorem textP (n : Nat) (t : Tx) (ht : t.length ≤ 2000000) (hn : t.length + 20 < n) : F26 n t = some (textV t) := by
 have hl := wide_len2 (runes t 0)
 unfold F26 textV
 rw [wideP n t ht hn]
 simp only [Option.bind_some]
 by_cases h : (wideV (runes t 0)).2 = 0
 ·rw [h, if_neg (by simp), show ((0 : Int) != 0) = false from rfl, w64 (by omega) (by omega), putP n _ (by simp; omega) (by simp)]
  simp only [cond_false, Option.bind_some, putV_len, List.length_cons, List.length_nil]
  rw [decide_eq_true (by omega)]; rfl
 ·rw [if_pos h, show ((wideV (runes t 0)).2 != 0) = true from bne_iff_ne.2 h]; rfl
theorem textR (n : Nat) (t : Tx) (ht : t.length ≤ 2000000) (hn : t.length + 20 < n) : F37 n t = some (textV t) := by
 have hl := wide_len2 (runes t 0)
 unfold F37 textV
 rw [wideR n t ht hn]
 simp only [Option.bind_some]
 by_cases h : (wideV (runes t 0)).2 = 0
 ·rw [h, if_neg (by simp), show ((0 : Int) != 0) = false from rfl, w64 (by omega) (by omega), bytesR n _ (by simp; omega) (by simp), if_pos (by simp only [allIn_cons, allIn_nil, and_true]; omega)]
  simp only [cond_false, Option.bind_some, putV_len, List.length_cons, List.length_nil]
  rw [decide_eq_true (by omega)]; rfl
 ·rw [if_pos h, show ((wideV (runes t 0)).2 != 0) = true from bne_iff_ne.2 h]; rfl
section
variable (u c s p m v r l k a z g : Int)
def devT : Tx := putV [18, 1] ++ putV [u, shrI .i64 u 8] ++ putV [c, s, p, m] ++ putV [v, shrI .i64 v 8] ++ putV [r, shrI .i64 r 8] ++ putV [l, shrI .i64 l 8] ++ putV [k, a, z, g]
def size4 : Bool := m == 8 || (m == 16 || (m == 32 || m == 64))
def devB : Bool := allIn 255 [c, s, p, k, a, z] && (allIn 65535 [u, v, r, l] && (size4 m && (decide (1 ≤ g) && decide (g ≤ 255))))
def devVV : Tx × Int := bif devB u c s p m v r l k a z g then (devT u c s p m v r l k a z g, 0) else ([], 1)
theorem devP (n : Nat) (hn : 100 < n) : F24 n u c s p m v r l k a z g = some (devVV u c s p m v r l k a z g) := by
 have kt : F24_j4 n u c s p m v r l k a z g true = some ([], 1) := rfl
 have kf : F24_j4 n u c s p m v r l k a z g false = some (devT u c s p m v r l k a z g, 0) := by
  simp only [F24_j4, cond_false]
  rw [putP n [18, 1] (by simp; omega) (by simp), putP n [c, s, p, m] (by simp; omega) (by simp), putP n [k, a, z, g] (by simp; omega) (by simp), wordP n u (by omega), wordP n v (by omega), wordP n r (by omega), wordP n l (by omega)]
  simp only [Option.bind_some, List.length_append, putV_len, List.length_cons, List.length_nil]
  rfl
 have h3 : F24_j3 n u c s p m v r l k a z g (size4 m) = some (devVV u c s p m v r l k a z g) := by
  simp only [F24_j3]
  rw [bytesB n _ (by simp; omega) (by simp), withinV n 65535 _ (by simp; omega) (by simp)]
  simp only [Option.bind_some]
  unfold devVV devB
  cases allIn 255 [c, s, p, k, a, z] with
  | false => simp only [Bool.not_false, cond_true, Bool.false_and, cond_false]; exact kt
  | true =>
   simp only [Bool.not_true, cond_false, Bool.true_and]
   cases allIn 65535 [u, v, r, l] with
   | false => simp only [Bool.not_false, cond_true, Bool.false_and, cond_false]; exact kt
   | true =>
    simp only [Bool.not_true, cond_false, Bool.true_and]
    cases size4 m with
    | false => simp only [Bool.not_false, cond_true, Bool.false_and, cond_false]; exact kt
    | true =>
     simp only [Bool.not_true, cond_false, Bool.true_and]
     by_cases h1 : g < 1
     ·rw [decide_eq_true h1, decide_eq_false (show ¬ 1 ≤ g by omega)]; exact kt
     ·rw [decide_eq_false h1, decide_eq_true (show 1 ≤ g by omega)]
      by_cases h2 : g > 255
      ·rw [decide_eq_true h2, decide_eq_false (show ¬ g ≤ 255 by omega)]; exact kt
      ·rw [decide_eq_false h2, decide_eq_true (show g ≤ 255 by omega)]; exact kf
 rw [← h3]
 unfold F24 size4
 cases m == 8 <;> cases m == 16 <;> cases m == 32 <;> cases m == 64 <;> rfl
theorem idxV (n : Nat) (hn : 10 < n) : F71 n [8, 16, 32, 64] m = some (size4 m) := by
 obtain ⟨q, rfl⟩ : ∃ q, n = q + 5 := ⟨n - 5, by omega⟩
 unfold F71 F98
 have e : ∀ x : Int, loopF (F98_l2 (q + 5) [8, 16, 32, 64] m) (q + 5) 0 = (bif m == 8 then some 0 else bif m == 16 then some 1 else bif m == 32 then some 2 else bif m == 64 then some 3 else some (-1)) := by
  intro x
  kernel_rfl
 rw [e 0]
 unfold size4
 cases m == 8 <;> cases m == 16 <;> cases m == 32 <;> cases m == 64 <;> rfl
theorem two9' (n : Nat) (x : Int) (h : inR2 65535 x) : F72 n x = some (putV [x, shrI .i64 x 8]) := by
 unfold inR2 at h
 obtain ⟨y, rfl⟩ : ∃ y : Nat, x = (y : Int) := ⟨x.toNat, by omega⟩
 exact two9 n y (by omega)
theorem devR (n : Nat) (hn : 100 < n) : F35 n u c s p m v r l k a z g = some (devVV u c s p m v r l k a z g) := by
 have rest : allIn 65535 [u, v, r, l] = true → F35_l7 n u c s p m v r l k a z g (fun _ => none) 4 = some (devVV u c s p m v r l k a z g) := by
  intro hw
  have hw2 := hw
  simp only [allIn_cons, allIn_nil, and_true] at hw2
  obtain ⟨w1, w2, w3, w4⟩ := hw2
  have h8 : ∀ y5 : Tx × Bool, y5 = (putV [k, a, z, g], true) → F35_j8 n u v r l (putV [c, s, p, m], true) y5 false = some (devT u c s p m v r l k a z g, 0) := by
   rintro y5 rfl
   simp only [F35_j8, cond_false]
   rw [two9' n u w1, two9' n v w2, two9' n r w3, two9' n l w4]
   simp only [Option.bind_some, List.length_append, putV_len, List.length_cons, List.length_nil]
   rfl
  have kt : ∀ y4 y5 : Tx × Bool, F35_j8 n u v r l y4 y5 true = some ([], 1) := fun _ _ => rfl
  simp only [F35_l7]
  rw [bytesR n [c, s, p, m] (by simp; omega) (by simp), bytesR n [k, a, z, g] (by simp; omega) (by simp), idxV m n (by omega)]
  simp only [Option.bind_some]
  rw [show decide ((4 : Int) < (([u, v, r, l].length : Nat) : Int)) = false from rfl]
  simp only [cond_false]
  unfold devVV devB
  rw [hw]
  have hs6 : allIn 255 [c, s, p, k, a, z] = (allIn 255 [c, s, p] && allIn 255 [k, a, z]) := by simp only [allIn, List.all_cons, List.all_nil, Bool.and_true, Bool.and_assoc]
  have hs4 : allIn 255 [c, s, p, m] = (allIn 255 [c, s, p] && decide (inR2 255 m)) := by simp only [allIn, List.all_cons, List.all_nil, Bool.and_true, Bool.and_assoc]
  have hs5 : allIn 255 [k, a, z, g] = (allIn 255 [k, a, z] && decide (inR2 255 g)) := by simp only [allIn, List.all_cons, List.all_nil, Bool.and_true, Bool.and_assoc]
  have hm : size4 m = true → decide (inR2 255 m) = true := by
   intro h
   unfold size4 at h
   simp only [Bool.or_eq_true, beq_iff_eq] at h
   exact decide_eq_true (by unfold inR2; omega)
  rw [hs4, hs5, hs6]
  cases h1 : allIn 255 [c, s, p] with
  | false => simp [kt]
  | true =>
   cases h2 : allIn 255 [k, a, z] with
   | false => cases decide (inR2 255 m) <;> simp [kt]
   | true =>
    by_cases hg : inR2 255 g
    ·have hg' : 0 ≤ g ∧ g ≤ 255 := hg
     rw [decide_eq_true hg, decide_eq_true (show g ≤ 255 by omega)]
     by_cases hg1 : g < 1
     ·rw [decide_eq_true hg1, decide_eq_false (show ¬ 1 ≤ g by omega)]
      cases decide (inR2 255 m) <;> simp [kt]
     ·rw [decide_eq_false hg1, decide_eq_true (show 1 ≤ g by omega)]
      cases hsz : size4 m with
      | false => cases decide (inR2 255 m) <;> simp [kt]
      | true =>
       rw [hm hsz]
       simp only [Bool.and_self, if_true, Bool.not_true, cond_false, cond_true]
       exact h8 _ rfl
    ·rw [decide_eq_false hg]
     have hg2 : (decide (1 ≤ g) && decide (g ≤ 255)) = false := by
      unfold inR2 at hg
      rw [Bool.and_eq_false_iff]
      by_cases h : 1 ≤ g
      ·right; exact decide_eq_false (by omega)
      ·left; exact decide_eq_false h
     rw [hg2]
     cases decide (inR2 255 m) <;> simp [kt]
 have fixK : ∀ K : Int → Option (Tx × Int), F35_l7 n u c s p m v r l k a z g K 4 = F35_l7 n u c s p m v r l k a z g (fun _ => none) 4 := by
  intro K
  simp only [F35_l7]
  rw [show decide ((4 : Int) < (([u, v, r, l].length : Nat) : Int)) = false from rfl]
  rfl
 unfold F35
 refine (loopF_eq (F35_l7 n u c s p m v r l k a z g) (fun x => bif allIn 65535 ([u, v, r, l].drop x.toNat) then F35_l7 n u c s p m v r l k a z g (fun _ => none) 4 else some ([], 1)) (fun x => ∃ j : Nat, x = (j : Int) ∧ j ≤ 4) (fun x => 4 - x.toNat) ?_ n 0 ⟨0, rfl, by omega⟩ (by simp; omega)).trans ?_
 ·rintro kk x ⟨j, rfl, hj⟩ ih
  by_cases hj4 : j < 4
  ·have ek : ((j : Int) + 1).toNat = j + 1 := by omega
   have ih' := ih ((j : Int) + 1) ⟨j + 1, by omega, by omega⟩ (by simp only [Int.toNat_natCast, ek]; omega)
   have hlen : [u, v, r, l].length = 4 := rfl
   have ed : allIn 65535 ([u, v, r, l].drop j) = (decide (inR2 65535 ([u, v, r, l].getD j 0)) && allIn 65535 ([u, v, r, l].drop (j + 1))) := by
    rw [dropC [u, v, r, l] j 0 (by rw [hlen]; exact hj4)]; simp only [allIn, List.all_cons]
   simp only [F35_l7, Int.toNat_natCast, btw3]
   rw [decide_eq_true (show (j : Int) < (([u, v, r, l].length : Nat) : Int) by rw [hlen]; omega), inb_true (by omega) (by rw [hlen]; omega), w64 (n := (j : Int) + 1) (by omega) (by omega), ih', ek, ed]
   simp only [cond_true, Option.bind_some]
   rw [show decide (0 ≤ [u, v, r, l].getD j 0 ∧ [u, v, r, l].getD j 0 ≤ 65535) = decide (inR2 65535 ([u, v, r, l].getD j 0)) from rfl]
   cases decide (inR2 65535 ([u, v, r, l].getD j 0)) <;> rfl
  ·obtain rfl : j = 4 := by omega
   have e4 : ((4 : Nat) : Int) = 4 := rfl
   rw [e4, fixK]; rfl
 ·show (bif allIn 65535 [u, v, r, l] then _ else _) = _
  cases hw : allIn 65535 [u, v, r, l] with
  | true => exact rest hw
  | false =>
   unfold devVV devB
   rw [hw]
   cases allIn 255 [c, s, p, k, a, z] <;> rfl
end
theorem l25 (n : Nat) (F : List CFace) (T : List Tx) : F8_l25 n F T = F16_l25 n F T := rfl
theorem l26_some (n : Nat) (T : List Tx) (m : List Int) (hm : m.length ≤ 1000) (hn : 2000 < n) : ∃ r, loopF (F8_l26 n T m) n 0 = some r := by
 obtain ⟨r, h, _⟩ := loopF_post (F8_l26 n T m) (fun x => ∃ j : Nat, x = (j : Int) ∧ j ≤ m.length) (fun _ _ => True) (fun x => m.length - x.toNat) (by
  rintro kk x ⟨j, rfl, hj⟩ ih
  simp only [F8_l26, Int.toNat_natCast]
  by_cases hjl : j < m.length
  ·obtain ⟨r, h1, _⟩ := ih ((j : Int) + 1) ⟨j + 1, by omega, by omega⟩ (by simp only [Int.toNat_natCast]; omega)
   rw [decide_eq_true (show (j : Int) < (m.length : Int) by omega), inb_true (by omega) (by omega), w64 (n := (j : Int) + 1) (by omega) (by omega), h1]
   cases decide (m.getD j 0 > ((T.length : Nat) : Int))
   ·exact ⟨_, rfl, trivial⟩
   ·exact ⟨_, rfl, trivial⟩
  ·rw [decide_eq_false (by omega)]
   exact ⟨_, rfl, trivial⟩) n 0 ⟨0, rfl, by omega⟩ (by simp; omega)
 exact ⟨r, h⟩
theorem l25_some (n : Nat) (F : List CFace) (hF : F.length ≤ 4) (T : List Tx) (m : List Int) (hm : m.length = 4) (hn : 2000 < n) : ∃ r, loopF (F8_l25 n F T) n (0, m) = some r := by
 obtain ⟨r, h, _⟩ := loopF_post (F8_l25 n F T) (fun d => ∃ j : Nat, d.1 = (j : Int) ∧ j ≤ F.length ∧ d.2.length = 4 + j) (fun _ _ => True) (fun d => F.length - d.1.toNat) (by
  rintro kk ⟨x, m⟩ ⟨j, rfl, hj, hm⟩ ih
  simp only at hm
  simp only [F8_l25, Int.toNat_natCast]
  by_cases hjl : j < F.length
  ·obtain ⟨r, h1, _⟩ := ih ((j : Int) + 1, m ++ [(F.getD j (0, (0, (0, (0, ([], [])))))).2.2.2.1]) ⟨j + 1, by simp, by omega, by simp; omega⟩ (by simp only [Int.toNat_natCast]; omega)
   rw [decide_eq_true (show (j : Int) < (F.length : Int) by omega), inb_true (by omega) (by omega), w64 (n := (j : Int) + 1) (by omega) (by omega), decide_eq_true (by simp; omega)]
   simp only [cond_true]
   exact ⟨r, h1, trivial⟩
  ·rw [decide_eq_false (by omega)]
   obtain ⟨r, h1⟩ := l26_some n T m (by omega) hn
   exact ⟨r, h1, trivial⟩) n (0, m) ⟨0, rfl, by omega, by simpa using hm⟩ (by simp; omega)
 exact ⟨r, h⟩
theorem conf_faces {v nm at' pw : Int} {Fs : List CFace} (h : (confV v nm at' pw Fs).2 = 0) : Fs.length ≤ 4 := by
 unfold confV at h
 split at h
 ·simp at h
 ·split at h
  ·simp at h
  ·omega
theorem l22_some (n : Nat) (hn : 1100000 < n) (a b c d : Int) (F : List CFace) (hF : F.length ≤ 4) (T : List Tx) (hT : T.length ≤ 8) (ht : ∀ t ∈ T, t.length ≤ 1048576) : ∃ r, loopF (F8_l22 n a b c d F T) n 0 = some r := by
 obtain ⟨r, h, _⟩ := loopF_post (F8_l22 n a b c d F T) (fun x => ∃ j : Nat, x = (j : Int) ∧ j ≤ T.length) (fun _ _ => True) (fun x => T.length - x.toNat) (by
  rintro kk x ⟨j, rfl, hj⟩ ih
  simp only [F8_l22, Int.toNat_natCast]
  by_cases hjl : j < T.length
  ·obtain ⟨r, h1, _⟩ := ih ((j : Int) + 1) ⟨j + 1, by omega, by omega⟩ (by simp only [Int.toNat_natCast]; omega)
   have hl : (T.getD j []).length ≤ 1048576 := by
    rw [List.getD_eq_getElem?_getD, List.getElem?_eq_getElem hjl]; exact ht _ (List.getElem_mem hjl)
   rw [decide_eq_true (show (j : Int) < (T.length : Int) by omega), inb_true (by omega) (by omega), w64 (n := (j : Int) + 1) (by omega) (by omega), h1, textP n _ (by omega) (by omega)]
   simp only [cond_true, Option.bind_some]
   cases ((textV (T.getD j [])).2 != 0)
   ·exact ⟨_, rfl, trivial⟩
   ·exact ⟨_, rfl, trivial⟩
  ·rw [decide_eq_false (by omega)]
   obtain ⟨r, h1⟩ := l25_some n F hF T [a, b, c, d] rfl (by omega)
   exact ⟨r, h1, trivial⟩) n 0 ⟨0, rfl, by omega⟩ (by simp; omega)
 exact ⟨r, h⟩
theorem l22_same (n : Nat) (hn : 1100000 < n) (a b c d : Int) (F : List CFace) (T : List Tx) (ht : ∀ t ∈ T, t.length ≤ 1048576) : loopF (F8_l22 n a b c d F T) n 0 = loopF (F16_l22 n a b c d F T) n 0 := by
 refine loopF_congr _ _ (fun k x => ?_) n 0
 simp only [F8_l22, F16_l22, l25]
 have hl : (T.getD x.toNat []).length ≤ 1048576 := by
  rw [List.getD_eq_getElem?_getD]
  cases h : T[x.toNat]? with
  | none => simp
  | some t => exact ht t (List.mem_of_getElem? h)
 rw [textP n _ (by omega) (by omega), textR n _ (by omega) (by omega)]
theorem sheetS (n : Nat) (hn : 1100000 < n) (u c s p m v r l k a z g cv cn ca cp : Int) (F : List CFace) (T : List Tx) (ht : ∀ t ∈ T, t.length ≤ 1048576) :
  ∃ e, F8 n u c s p m v r l k a z g cv cn ca cp F T = some e ∧ F16 n u c s p m v r l k a z g cv cn ca cp F T = some e := by
 unfold F8 F16
 rw [devP u c s p m v r l k a z g n (by omega), devR u c s p m v r l k a z g n (by omega), confP n (by omega), confR n (by omega), l22_same n hn k a z cn F T ht]
 simp only [Option.bind_some]
 cases ((devVV u c s p m v r l k a z g).2 != 0)
 ·cases (g != 1)
  ·cases h : ((confV cv cn ca cp F).2 != 0)
   ·by_cases h8 : ((T.length : Nat) : Int) > 8
    ·rw [decide_eq_true h8]; exact ⟨_, rfl, rfl⟩
    ·rw [decide_eq_false h8]
     obtain ⟨e, he⟩ := l22_some n hn k a z cn F (conf_faces (bne_eq_false_iff_eq.1 h)) T (by omega) ht
     rw [l22_same n hn k a z cn F T ht] at he
     exact ⟨e, he, he⟩
   ·exact ⟨_, rfl, rfl⟩
  ·exact ⟨_, rfl, rfl⟩
 ·exact ⟨_, rfl, rfl⟩
end Go.Proofs.YtghbnolfadnoaaaGreat
