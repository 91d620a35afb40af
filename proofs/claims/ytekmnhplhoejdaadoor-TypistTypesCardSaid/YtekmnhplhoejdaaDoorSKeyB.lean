/- Sets of keys as four words of 64 bits; in plain Lean. -/
import Derived.Test.YtekmnhplhoejdaaDoorTyK
import Derived.Test.YtekmnhplhoejdaaDoorAm26
import Derived.Test.YtekmnhplhoejdaaDoorAm22
namespace Go.Proofs.YtekmnhplhoejdaaDoor
open Go Go.RowKit
set_option linter.unusedVariables false

theorem ku64 (x : Nat) (h : x < 18446744073709551616) : IntKind.wrap .u64 (x : Int) = x := by rw [u64w]; omega
theorem kOr (a b : Nat) (ha : a < 18446744073709551616) (hb : b < 18446744073709551616) : bitsI .or .u64 (a : Int) (b : Int) = ((a ||| b : Nat) : Int) := by
  have hx : a ||| b < 2 ^ 64 := Nat.or_lt_two_pow (by omega) (by omega)
  show IntKind.u64.wrap ((BitVec.ofInt 64 (a : Int) ||| BitVec.ofInt 64 (b : Int)).toNat : Int) = _
  rw [BitVec.toNat_or, bv64 a (by omega), bv64 b (by omega), ku64 _ (by omega)]
theorem kAnd (a b : Nat) (ha : a < 18446744073709551616) (hb : b < 18446744073709551616) : bitsI .and .u64 (a : Int) (b : Int) = ((a &&& b : Nat) : Int) := by
  have hx : a &&& b < 2 ^ 64 := Nat.and_lt_two_pow _ (by omega)
  show IntKind.u64.wrap ((BitVec.ofInt 64 (a : Int) &&& BitVec.ofInt 64 (b : Int)).toNat : Int) = _
  rw [BitVec.toNat_and, bv64 a (by omega), bv64 b (by omega), ku64 _ (by omega)]
theorem kXor (a b : Nat) (ha : a < 18446744073709551616) (hb : b < 18446744073709551616) : bitsI .xor .u64 (a : Int) (b : Int) = ((a ^^^ b : Nat) : Int) := by
  have hx : a ^^^ b < 2 ^ 64 := Nat.xor_lt_two_pow (by omega) (by omega)
  show IntKind.u64.wrap ((BitVec.ofInt 64 (a : Int) ^^^ BitVec.ofInt 64 (b : Int)).toNat : Int) = _
  rw [BitVec.toNat_xor, bv64 a (by omega), bv64 b (by omega), ku64 _ (by omega)]
theorem two64 (j : Nat) (hj : j < 64) : 2 ^ j < 18446744073709551616 := by
  have : 2 ^ j < 2 ^ 64 := Nat.pow_lt_pow_right (by omega) hj
  omega
theorem kShl (j : Nat) (hj : j < 64) : shlI .u64 1 (j : Int) = ((2 ^ j : Nat) : Int) := by
  unfold shlI
  rw [Int.toNat_natCast, Nat.min_eq_left (by simp [IntKind.bits]; omega), Int.one_mul]
  have := ku64 (2 ^ j) (two64 j hj)
  rw [← this]; simp
/-- a set of words that fit -/
structure G4 (b : BitsL) : Prop where
  len : b.length = 4
  fits : ∀ x ∈ b, 0 ≤ x ∧ x < 18446744073709551616
def wd (b : BitsL) (i : Nat) : Nat := (b.getD i 0).toNat
theorem G4.word {b : BitsL} (h : G4 b) (i : Nat) : b.getD i 0 = ((wd b i : Nat) : Int) ∧ wd b i < 18446744073709551616 := by
  unfold wd
  by_cases hi : i < b.length
  · have := h.fits (b.getD i 0) (by rw [List.getD_eq_getElem?_getD, List.getElem?_eq_getElem hi]; exact List.getElem_mem hi)
    omega
  · rw [List.getD_eq_getElem?_getD, List.getElem?_eq_none (by omega)]; exact ⟨rfl, by decide⟩
/-- is a code in the set? -/
def tb (b : BitsL) (c : Nat) : Bool := (wd b (c / 64)).testBit (c % 64)
theorem tdiv64 (c : Nat) : ((c : Nat) : Int).tdiv 64 = ((c / 64 : Nat) : Int) := by rw [Int.tdiv_eq_ediv_of_nonneg (by omega)]; omega
theorem tmod64 (c : Nat) : ((c : Nat) : Int).tmod 64 = ((c % 64 : Nat) : Int) := by rw [Int.tmod_eq_emod_of_nonneg (by omega)]; omega
theorem and_one (x : Nat) : ((((x &&& 1 : Nat) : Int)) == 1) = x.testBit 0 := by
  rw [Nat.and_one_is_mod, Nat.testBit_zero]
  by_cases h : x % 2 = 1
  · rw [h]; rfl
  · rw [show x % 2 = 0 by omega]; rfl
theorem hasP (n : Nat) (b : BitsL) (c : Nat) (hb : G4 b) (hc : c < 256) : F81 n b (c : Int) = some (tb b c) := by
  unfold F81
  obtain ⟨h1, h2⟩ := hb.word (c / 64)
  have hj : c % 64 < 64 := Nat.mod_lt _ (by omega)
  rw [tdiv64, tmod64, w64 (n := ((c / 64 : Nat) : Int)) (by omega) (by omega), inb_true (by omega) (by omega), ku64 (c % 64) (by omega), decide_eq_true (show (0 : Int) ≤ ((c % 64 : Nat) : Int) by omega), Int.toNat_natCast, h1, shr_div .u64 _ (c % 64) (by simp [IntKind.bits]; omega)]
  have e : (((wd b (c / 64) : Nat) : Int)) / 2 ^ (c % 64) = ((wd b (c / 64) / 2 ^ (c % 64) : Nat) : Int) := by simp
  have hlt : wd b (c / 64) / 2 ^ (c % 64) ≤ wd b (c / 64) := Nat.div_le_self _ _
  rw [e, show (1 : Int) = ((1 : Nat) : Int) from rfl, kAnd _ 1 (by omega) (by omega)]
  simp only [cond_true]
  have := and_one (wd b (c / 64) / 2 ^ (c % 64))
  rw [show ((1 : Nat) : Int) = 1 from rfl, this]
  unfold tb
  rw [Nat.testBit_div_two_pow, Nat.zero_add]
theorem hasR (n : Nat) (b : BitsL) (c : Nat) (hb : G4 b) (hc : c < 256) : F25 n b (c : Int) = some (tb b c) := by
  unfold F25
  obtain ⟨h1, h2⟩ := hb.word (c / 64)
  have hj : c % 64 < 64 := Nat.mod_lt _ (by omega)
  have hp := two64 (c % 64) hj
  have hp0 : 0 < 2 ^ (c % 64) := Nat.pow_pos (by omega)
  have hlt : wd b (c / 64) / 2 ^ (c % 64) ≤ wd b (c / 64) := Nat.div_le_self _ _
  rw [tdiv64, tmod64, w64 (n := ((c / 64 : Nat) : Int)) (by omega) (by omega), inb_true (by omega) (by omega), decide_eq_true (show (0 : Int) ≤ ((c % 64 : Nat) : Int) by omega), Int.toNat_natCast, h1, kShl _ hj, show ((((2 ^ (c % 64) : Nat) : Int)) != 0) = true from bne_iff_ne.2 (by omega)]
  simp only [cond_true]
  rw [Int.tdiv_eq_ediv_of_nonneg (Int.natCast_nonneg _), ← Int.natCast_ediv, ku64 _ (by omega), Int.tmod_eq_emod_of_nonneg (Int.natCast_nonneg _)]
  congr 1
  unfold tb
  rw [Nat.testBit_eq_decide_div_mod_eq]
  by_cases h : wd b (c / 64) / 2 ^ (c % 64) % 2 = 1
  · rw [decide_eq_true h]; exact beq_iff_eq.2 (by omega)
  · rw [decide_eq_false h]; exact beq_eq_false_iff_ne.2 (by omega)
/-- one word changed -/
theorem G4.set {b : BitsL} (h : G4 b) (i : Nat) {x : Nat} (hx : x < 18446744073709551616) : G4 (b.set i (x : Int)) := by
  refine ⟨by rw [List.length_set]; exact h.len, fun y hy => ?_⟩
  rcases List.mem_or_eq_of_mem_set hy with h1 | h1
  · exact h.fits y h1
  · subst h1; omega
theorem wd_set {b : BitsL} (h : G4 b) (i k : Nat) (x : Nat) (hi : i < 4) : wd (b.set i (x : Int)) k = if k = i then x else wd b k := by
  unfold wd
  rw [List.getD_eq_getElem?_getD, List.getD_eq_getElem?_getD, List.getElem?_set]
  by_cases hk : i = k
  · subst hk
    rw [if_pos rfl, if_pos (by rw [h.len]; exact hi), if_pos rfl]; rfl
  · rw [if_neg hk, if_neg (fun e => hk e.symm)]
theorem tb_set {b : BitsL} (h : G4 b) (c d : Nat) (x : Nat) (hc : c < 256) (hd : d < 256) (f : Bool → Bool) (hx : ∀ j, j < 64 → x.testBit j = if j = c % 64 then f ((wd b (c / 64)).testBit j) else (wd b (c / 64)).testBit j) :
    tb (b.set (c / 64) (x : Int)) d = if d = c then f (tb b d) else tb b d := by
  unfold tb
  rw [wd_set h (c / 64) (d / 64) x (by omega)]
  by_cases h1 : d / 64 = c / 64
  · rw [if_pos h1, hx (d % 64) (Nat.mod_lt _ (by omega)), h1]
    by_cases h2 : d % 64 = c % 64
    · rw [if_pos h2, if_pos (by omega)]
    · rw [if_neg h2, if_neg (fun e => h2 (by rw [e]))]
  · rw [if_neg h1, if_neg (fun e => h1 (by rw [e]))]
theorem G4.ext {a b : BitsL} (ha : G4 a) (hb : G4 b) (h : ∀ c, c < 256 → tb a c = tb b c) : a = b := by
  have hw : ∀ i, i < 4 → wd a i = wd b i := by
    intro i hi
    refine Nat.eq_of_testBit_eq fun j => ?_
    by_cases hj : j < 64
    · have := h (64 * i + j) (by omega)
      unfold tb at this
      rwa [show (64 * i + j) / 64 = i by omega, show (64 * i + j) % 64 = j by omega] at this
    · have h1 := (ha.word i).2
      have h2 := (hb.word i).2
      have : 2 ^ 64 ≤ 2 ^ j := Nat.pow_le_pow_right (by omega) (by omega)
      rw [Nat.testBit_lt_two_pow (by omega), Nat.testBit_lt_two_pow (by omega)]
  apply List.ext_getElem (by rw [ha.len, hb.len])
  intro i h1 h2
  have e := hw i (by rw [ha.len] at h1; exact h1)
  have e1 := (ha.word i).1
  have e2 := (hb.word i).1
  rw [List.getD_eq_getElem?_getD, List.getElem?_eq_getElem h1] at e1
  rw [List.getD_eq_getElem?_getD, List.getElem?_eq_getElem h2] at e2
  simp only [Option.getD_some] at e1 e2
  rw [e1, e2, e]
/-- a code flipped, added -/
def flipB (b : BitsL) (c : Nat) : BitsL := b.set (c / 64) (((wd b (c / 64) ^^^ 2 ^ (c % 64) : Nat) : Int))
def addB (b : BitsL) (c : Nat) : BitsL := b.set (c / 64) (((wd b (c / 64) ||| 2 ^ (c % 64) : Nat) : Int))
theorem flip_good {b : BitsL} (h : G4 b) (c : Nat) : G4 (flipB b c) := h.set _ (by
  have := two64 (c % 64) (Nat.mod_lt _ (by omega))
  have := (h.word (c / 64)).2
  have := Nat.xor_lt_two_pow (n := 64) (x := wd b (c / 64)) (y := 2 ^ (c % 64)) (by omega) (by omega)
  omega)
theorem add_good {b : BitsL} (h : G4 b) (c : Nat) : G4 (addB b c) := h.set _ (by
  have := two64 (c % 64) (Nat.mod_lt _ (by omega))
  have := (h.word (c / 64)).2
  have := Nat.or_lt_two_pow (n := 64) (x := wd b (c / 64)) (y := 2 ^ (c % 64)) (by omega) (by omega)
  omega)
theorem tb_flip {b : BitsL} (h : G4 b) (c d : Nat) (hc : c < 256) (hd : d < 256) : tb (flipB b c) d = if d = c then !tb b d else tb b d := by
  refine tb_set h c d _ hc hd (fun x => !x) fun j hj => ?_
  rw [Nat.testBit_xor, Nat.testBit_two_pow]
  by_cases e : c % 64 = j
  · subst e; simp
  · rw [decide_eq_false e, if_neg (fun h => e h.symm)]; simp
theorem tb_add {b : BitsL} (h : G4 b) (c d : Nat) (hc : c < 256) (hd : d < 256) : tb (addB b c) d = if d = c then true else tb b d := by
  refine tb_set h c d _ hc hd (fun _ => true) fun j hj => ?_
  rw [Nat.testBit_or, Nat.testBit_two_pow]
  by_cases e : c % 64 = j
  · subst e; simp
  · rw [decide_eq_false e, if_neg (fun h => e h.symm)]; simp
theorem zero_good : G4 (List.replicate 4 (0 : Int)) := ⟨by simp, fun x hx => by rw [List.eq_of_mem_replicate hx]; omega⟩
theorem tb_zero (c : Nat) : tb (List.replicate 4 (0 : Int)) c = false := by
  unfold tb wd
  have : ∀ i, (List.replicate 4 (0 : Int)).getD i 0 = 0 := by
    intro i
    rw [List.getD_eq_getElem?_getD, List.getElem?_replicate]
    split <;> rfl
  rw [this]; simp
/-- the document's way to put a list of codes into a set -/
def idxI : Option Nat → Int
  | some i => (i : Int)
  | none => -1
theorem indexP (n : Nat) (s : List Int) (v : Int) (hs : s.length ≤ 4611686018427387904) (hn : s.length < n) : F91 n s v = some (idxI (s.findIdx? (fun y => v == y))) := by
  unfold F91
  refine (loopF_eq (F91_l2 n s v) (fun x => some (match (s.drop x.toNat).findIdx? (fun y => v == y) with | some i => ((x.toNat + i : Nat) : Int) | none => -1)) (fun x => ∃ k : Nat, x = (k : Int) ∧ k ≤ s.length) (fun x => s.length - x.toNat) ?_ n 0 ⟨0, rfl, by omega⟩ (by simp; omega)).trans (by simp only [Int.toNat_zero, List.drop_zero]; cases s.findIdx? (fun y => v == y) <;> simp [idxI])
  rintro kk x ⟨k, rfl, hk⟩ ih
  simp only [F91_l2, Int.toNat_natCast]
  by_cases hkl : k < s.length
  · have ed : s.drop k = s.getD k 0 :: s.drop (k + 1) := by
      rw [List.drop_eq_getElem_cons hkl]; simp [List.getD_eq_getElem?_getD, hkl]
    have ek : ((k : Int) + 1).toNat = k + 1 := by omega
    rw [decide_eq_true (show (k : Int) < ((s.length : Nat) : Int) by omega), inb_true (by omega) (by omega), w64 (n := (k : Int) + 1) (by omega) (by omega), ih ((k : Int) + 1) ⟨k + 1, by omega, by omega⟩ (by simp only [Int.toNat_natCast, ek]; omega), ek, ed, List.findIdx?_cons]
    simp only [cond_true]
    cases h : v == s.getD k 0 with
    | true => simp
    | false =>
      simp only [cond_false, Bool.false_eq_true, if_false]
      cases (s.drop (k + 1)).findIdx? (fun y => v == y) with
      | none => rfl
      | some i => simp; omega
  · rw [decide_eq_false (show ¬ (k : Int) < ((s.length : Nat) : Int) by omega), List.drop_of_length_le (by omega)]; rfl
theorem containsP (n : Nat) (s : List Int) (v : Int) (hs : s.length ≤ 4611686018427387904) (hn : s.length < n) : F126 n s v = some (s.contains v) := by
  unfold F126
  rw [indexP n s v hs hn, Option.bind_some]
  congr 1
  cases h : s.findIdx? (fun y => v == y) with
  | none =>
    rw [List.findIdx?_eq_none_iff] at h
    have : s.contains v = false := by
      rw [List.contains_eq_mem]
      refine decide_eq_false fun hm => ?_
      have := h v hm
      simp at this
    rw [this]; rfl
  | some i =>
    have h2 := (List.findIdx?_eq_some_iff_getElem.1 h)
    obtain ⟨hi, hv, _⟩ := h2
    have : s.contains v = true := by
      rw [List.contains_eq_mem]
      refine decide_eq_true ?_
      rw [eq_of_beq hv]
      exact List.getElem_mem hi
    rw [this]
    exact decide_eq_true (by simp [idxI])
theorem addR_eq {b : BitsL} (h : G4 b) (c : Nat) (hc : c < 256) (hz : ∀ d, c ≤ d → d < 256 → tb b d = false) : IntKind.wrap .u64 (b.getD (c / 64) 0 + ((2 ^ (c % 64) : Nat) : Int)) = ((wd b (c / 64) ||| 2 ^ (c % 64) : Nat) : Int) := by
  obtain ⟨h1, h2⟩ := h.word (c / 64)
  have hj : c % 64 < 64 := Nat.mod_lt _ (by omega)
  have hp := two64 (c % 64) hj
  have hlt : wd b (c / 64) < 2 ^ (c % 64) := by
    refine Nat.lt_pow_two_of_testBit _ fun j hj2 => ?_
    by_cases hj3 : j < 64
    · have := hz (64 * (c / 64) + j) (by omega) (by omega)
      unfold tb at this
      rwa [show (64 * (c / 64) + j) / 64 = c / 64 by omega, show (64 * (c / 64) + j) % 64 = j by omega] at this
    · have : 2 ^ 64 ≤ 2 ^ j := Nat.pow_le_pow_right (by omega) (by omega)
      exact Nat.testBit_lt_two_pow (by omega)
  have e := nat_or_add (wd b (c / 64)) 1 (c % 64) hlt
  rw [Nat.one_mul] at e
  have hx : wd b (c / 64) ||| 2 ^ (c % 64) < 2 ^ 64 := Nat.or_lt_two_pow (by omega) (by omega)
  rw [h1, ← Int.natCast_add, ← e, ku64 _ (by omega)]
/-- the set of a list of codes -/
def KeyS (codes : List Int) (b : BitsL) : Prop := G4 b ∧ ∀ c, c < 256 → tb b c = codes.contains (c : Int)
theorem keySetP (n : Nat) (codes : List Int) (hl : codes.length ≤ 4611686018427387904) (hn : codes.length < n) (hn2 : 256 < n) : ∃ b, F93 n codes = some b ∧ KeyS codes b := by
  unfold F93
  refine loopF_post (F93_l2 n codes) (fun d => ∃ (k : Nat), d.1 = (k : Int) ∧ k ≤ 256 ∧ G4 d.2 ∧ ∀ c, c < 256 → tb d.2 c = (decide (c < k) && codes.contains (c : Int))) (fun _ b => KeyS codes b) (fun d => 256 - d.1.toNat) ?_ n _ ⟨0, rfl, by omega, zero_good, fun c hc => by rw [tb_zero]; simp⟩ (by simp; omega)
  rintro kk ⟨x, b⟩ ⟨k, hxk, hk, hb, ht⟩ ih
  simp only at hxk ht hb
  subst hxk
  simp only [F93_l2]
  by_cases hlt : k < 256
  · have ek : ((k : Int) + 1).toNat = k + 1 := by omega
    have hj : k % 64 < 64 := Nat.mod_lt _ (by omega)
    rw [decide_eq_true (show (k : Int) < 256 by omega), containsP n codes _ hl hn, w64 (n := (k : Int) + 1) (by omega) (by omega)]
    simp only [cond_true, Option.bind_some]
    cases hcon : codes.contains (k : Int) with
    | true =>
      rw [tdiv64, tmod64, w64 (n := ((k / 64 : Nat) : Int)) (by omega) (by omega), inb_true (by omega) (by omega), decide_eq_true (show (0 : Int) ≤ ((k % 64 : Nat) : Int) by omega), Int.toNat_natCast, kShl _ hj, addR_eq hb k hlt (fun d h1 h2 => by rw [ht d h2, decide_eq_false (by omega)]; rfl)]
      simp only [cond_true]
      obtain ⟨r, h1, h2⟩ := ih ((k : Int) + 1, addB b k) ⟨k + 1, by simp, by omega, add_good hb k, fun c hc => by
        rw [tb_add hb k c hlt hc]
        by_cases e : c = k
        · subst e; rw [if_pos rfl, hcon, decide_eq_true (by omega)]; rfl
        · rw [if_neg e, ht c hc]
          by_cases e2 : c < k
          · rw [decide_eq_true e2, decide_eq_true (show c < k + 1 by omega)]
          · rw [decide_eq_false e2, decide_eq_false (show ¬ c < k + 1 by omega)]⟩ (by simp only [Int.toNat_natCast, ek]; omega)
      exact ⟨r, h1, h2⟩
    | false =>
      simp only [cond_false]
      obtain ⟨r, h1, h2⟩ := ih ((k : Int) + 1, b) ⟨k + 1, by simp, by omega, hb, fun c hc => by
        rw [ht c hc]
        by_cases e : c = k
        · subst e; rw [hcon, Bool.and_false, Bool.and_false]
        · by_cases e2 : c < k
          · rw [decide_eq_true e2, decide_eq_true (show c < k + 1 by omega)]
          · rw [decide_eq_false e2, decide_eq_false (show ¬ c < k + 1 by omega)]⟩ (by simp only [Int.toNat_natCast, ek]; omega)
      exact ⟨r, h1, h2⟩
  · have hk2 : k = 256 := by omega
    subst hk2
    refine ⟨b, rfl, hb, fun c hc => ?_⟩
    rw [ht c hc, decide_eq_true hc]; rfl
end Go.Proofs.YtekmnhplhoejdaaDoor
