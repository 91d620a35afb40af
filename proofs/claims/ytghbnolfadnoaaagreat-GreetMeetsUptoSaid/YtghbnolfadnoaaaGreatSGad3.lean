/- GadgetSays, in plain Lean: parts. -/
import Derived.Test.YtghbnolfadnoaaaGreatSSheet
import Derived.Test.YtghbnolfadnoaaaGreatSSetup
namespace Go.Proofs.YtghbnolfadnoaaaGreat
open Go Go.RowKit
set_option linter.unusedVariables false
theorem or_bit0 (h j : Nat) (hb : h / 2 ^ j % 2 = 0) : h ||| 2 ^ j = h + 2 ^ j := by
 have hr : h % 2 ^ j < 2 ^ j := Nat.mod_lt _ (Nat.pow_pos (by omega))
 have hd := Nat.mod_add_div h (2 ^ j)
 obtain ⟨m, hm⟩ : ∃ m, h / 2 ^ j = 2 * m := ⟨h / 2 ^ j / 2, by omega⟩
 have e2 : 2 ^ j * (2 * m) = m * 2 ^ (j + 1) := by rw [Nat.pow_succ, Nat.mul_comm (2 ^ j) (2 * m), Nat.mul_comm (2 ^ j) 2, ← Nat.mul_assoc, Nat.mul_comm m 2]
 rw [hm, e2] at hd
 have hp : (2 : Nat) ^ (j + 1) = 2 ^ j + 2 ^ j := by rw [Nat.pow_succ]; omega
 have a1 : h % 2 ^ j ||| m * 2 ^ (j + 1) = h := by rw [nat_or_add _ _ _ (by omega)]; exact hd
 have a2 : h % 2 ^ j ||| 2 ^ j = h % 2 ^ j + 2 ^ j := by
  have := nat_or_add (h % 2 ^ j) 1 j hr
  simpa using this
 have a3 : (h % 2 ^ j + 2 ^ j) ||| m * 2 ^ (j + 1) = (h % 2 ^ j + 2 ^ j) + m * 2 ^ (j + 1) := nat_or_add _ _ _ (by omega)
 have a4 : h ||| 2 ^ j = (h % 2 ^ j ||| m * 2 ^ (j + 1)) ||| 2 ^ j := by rw [a1]
 rw [a4, Nat.or_assoc, Nat.or_comm (m * 2 ^ (j + 1)) (2 ^ j), ← Nat.or_assoc, a2, a3]
 omega
theorem mask_bit (j i : Nat) (hj : j < 32) : (2 ^ 64 - 1 - 2 ^ j).testBit i = (decide (i < 64) && !decide (j = i)) := by
 have hp : (2 : Nat) ^ j < 2 ^ 64 := Nat.pow_lt_pow_right (by omega) (by omega)
 rw [show 2 ^ 64 - 1 - 2 ^ j = 2 ^ 64 - (2 ^ j + 1) by omega, Nat.testBit_two_pow_sub_succ hp, Nat.testBit_two_pow]
theorem and_bit0 (h j : Nat) (hh : h < 4294967296) (hj : j < 32) (hb : h / 2 ^ j % 2 = 0) : h &&& (2 ^ 64 - 1 - 2 ^ j) = h ∧ (h ||| 2 ^ j) &&& (2 ^ 64 - 1 - 2 ^ j) = h := by
 have hz : h.testBit j = false := by rw [Nat.testBit_eq_decide_div_mod_eq]; exact decide_eq_false (by omega)
 have hbig : ∀ i, 64 ≤ i → h.testBit i = false := fun i hi => Nat.testBit_lt_two_pow (Nat.lt_of_lt_of_le (show h < 2 ^ 64 by omega) (Nat.pow_le_pow_right (by omega) hi))
 constructor
 ·apply Nat.eq_of_testBit_eq
  intro i
  rw [Nat.testBit_and, mask_bit j i hj]
  by_cases h1 : i < 64
  ·by_cases h2 : j = i
   ·subst h2; rw [hz]; rfl
   ·rw [decide_eq_true h1, decide_eq_false h2]; simp
  ·rw [hbig i (by omega)]; rfl
 ·apply Nat.eq_of_testBit_eq
  intro i
  rw [Nat.testBit_and, Nat.testBit_or, Nat.testBit_two_pow, mask_bit j i hj]
  by_cases h1 : i < 64
  ·by_cases h2 : j = i
   ·subst h2; rw [hz]; simp
   ·rw [decide_eq_true h1, decide_eq_false h2]; simp
  ·rw [hbig i (by omega), decide_eq_false h1]; simp
theorem bAndNot (h j : Nat) (hh : h < 4294967296) (hj : j < 32) : bitsI .andNot .i64 (h : Int) ((2 ^ j : Nat) : Int) = ((h &&& (2 ^ 64 - 1 - 2 ^ j) : Nat) : Int) := by
 have hp : (2 : Nat) ^ j < 2 ^ 32 := Nat.pow_lt_pow_right (by omega) (by omega)
 have hx : h &&& (2 ^ 64 - 1 - 2 ^ j) ≤ h := Nat.and_le_left
 show IntKind.i64.wrap ((BitVec.ofInt 64 (h : Int) &&& ~~~ BitVec.ofInt 64 ((2 ^ j : Nat) : Int)).toNat : Int) = _
 rw [BitVec.toNat_and, BitVec.toNat_not, bv64 h (by omega), bv64 (2 ^ j) (by omega), w64n _ (by omega)]
theorem bit_off (h j : Nat) (hh : h < 4294967296) (hj : j < 32) : bitsI .andNot .i64 (h : Int) ((2 ^ j : Nat) : Int) = if h / 2 ^ j % 2 = 1 then (h : Int) - ((2 ^ j : Nat) : Int) else (h : Int) := by
 rw [bAndNot h j hh hj]
 have hpos : 0 < 2 ^ j := Nat.pow_pos (by omega)
 by_cases hb : h / 2 ^ j % 2 = 1
 ·rw [if_pos hb]
  have hle : 2 ^ j ≤ h := by
   have : 1 ≤ h / 2 ^ j := Nat.pos_of_ne_zero fun hz => by rw [hz] at hb; exact absurd hb (by decide)
   exact (Nat.le_div_iff_mul_le hpos).1 this |> fun x => by simpa using x
  obtain ⟨h0, rfl⟩ : ∃ h0, h = h0 + 2 ^ j := ⟨h - 2 ^ j, by omega⟩
  have hq : (h0 + 2 ^ j) / 2 ^ j = h0 / 2 ^ j + 1 := Nat.add_div_right _ hpos
  have h0b : h0 / 2 ^ j % 2 = 0 := by omega
  rw [← or_bit0 h0 j h0b, (and_bit0 h0 j (by omega) hj h0b).2, or_bit0 h0 j h0b]
  omega
 ·rw [if_neg hb, (and_bit0 h j hh hj (by omega)).1]
theorem bit_on (h j : Nat) (hh : h < 4294967296) (hj : j < 32) : bitsI .or .i64 (bitsI .andNot .i64 (h : Int) ((2 ^ j : Nat) : Int)) ((2 ^ j : Nat) : Int) = if h / 2 ^ j % 2 = 1 then (h : Int) else (h : Int) + ((2 ^ j : Nat) : Int) := by
 have hp : (2 : Nat) ^ j < 2 ^ 32 := Nat.pow_lt_pow_right (by omega) (by omega)
 rw [bit_off h j hh hj]
 have hpos : 0 < 2 ^ j := Nat.pow_pos (by omega)
 by_cases hb : h / 2 ^ j % 2 = 1
 ·rw [if_pos hb, if_pos hb]
  have hle : 2 ^ j ≤ h := by
   have : 1 ≤ h / 2 ^ j := Nat.pos_of_ne_zero fun hz => by rw [hz] at hb; exact absurd hb (by decide)
   exact (Nat.le_div_iff_mul_le hpos).1 this |> fun x => by simpa using x
  obtain ⟨h0, rfl⟩ : ∃ h0, h = h0 + 2 ^ j := ⟨h - 2 ^ j, by omega⟩
  have hq : (h0 + 2 ^ j) / 2 ^ j = h0 / 2 ^ j + 1 := Nat.add_div_right _ hpos
  have h0b : h0 / 2 ^ j % 2 = 0 := by omega
  rw [show ((h0 + 2 ^ j : Nat) : Int) - ((2 ^ j : Nat) : Int) = (h0 : Int) by omega, bOr h0 (2 ^ j) (by omega) (by omega), or_bit0 h0 j h0b]
 ·rw [if_neg hb, if_neg hb, bOr h (2 ^ j) (by omega) (by omega), or_bit0 h j (by omega)]
  omega
theorem tdivN (a b : Nat) : ((a : Int)).tdiv (b : Int) = ((a / b : Nat) : Int) := by
 rw [Int.tdiv_eq_ediv_of_nonneg (by omega)]; simp
theorem tmodN (a b : Nat) : ((a : Int)).tmod (b : Int) = ((a % b : Nat) : Int) := by
 rw [Int.tmod_eq_emod_of_nonneg (by omega)]; simp
theorem pow_le62 {k : Nat} (h : k ≤ 62) : (2 : Nat) ^ k ≤ 4611686018427387904 := Nat.pow_le_pow_right (by omega) h
theorem twoV (n k : Nat) (hk : k ≤ 62) (hn : k < n) : F78 n (k : Int) = some ((2 ^ k : Nat) : Int) := by
 unfold F78
 refine loopF_eq (F78_l2 n (k : Int)) (fun _ => some ((2 ^ k : Nat) : Int)) (fun d => ∃ j : Nat, j ≤ k ∧ d = (((2 ^ j : Nat) : Int), (j : Int))) (fun d => k - d.2.toNat) ?_ n (1, 0) ⟨0, by omega, rfl⟩ (by simp; omega)
 rintro kk d ⟨j, hj, rfl⟩ ih
 simp only [F78_l2]
 by_cases hjk : j < k
 ·have h2 : (2 : Nat) ^ (j + 1) ≤ 4611686018427387904 := pow_le62 (by omega)
  have e1 : IntKind.wrap .i64 (((2 ^ j : Nat) : Int) * 2) = ((2 ^ (j + 1) : Nat) : Int) := by
   have : ((2 ^ j : Nat) : Int) * 2 = ((2 ^ (j + 1) : Nat) : Int) := by rw [Nat.pow_succ]; simp
   rw [this, w64n _ (by omega)]
  rw [decide_eq_true (show (j : Int) < (k : Int) by omega), e1, w64 (n := (j : Int) + 1) (by omega) (by omega)]
  exact ih _ ⟨j + 1, by omega, rfl⟩ (by simp only; omega)
 ·obtain rfl : j = k := by omega
  rw [decide_eq_false (by omega)]; rfl
theorem beqD (x c : Int) : (x == c) = decide (x = c) := by
 by_cases h : x = c
 ·rw [decide_eq_true h]; exact beq_iff_eq.2 h
 ·rw [decide_eq_false h]; exact beq_eq_false_iff_ne.2 h
def validV (st ad ha : Int) : Bool := decide ((st = 0 ∧ ad = 0 ∨ (st = 1 ∨ st = 2) ∧ 1 ≤ ad ∧ ad ≤ 127) ∧ (0 ≤ ha ∧ ha < 4294967296) ∧ (ha = 0 ∨ st = 2))
theorem validP (n : Nat) (st ad ha : Int) : F30 n st ad ha = some (validV st ad ha) := by
 have jt : F30_j2 n st ha true = some (decide ((0 ≤ ha ∧ ha < 4294967296) ∧ (ha = 0 ∨ st = 2))) := by
  simp only [F30_j2, cond_true]
  by_cases h1 : 0 ≤ ha <;> by_cases h2 : ha < 4294967296 <;> by_cases h3 : ha = 0 <;> by_cases h4 : st = 2 <;> simp [beqD, h1, h2, h3, h4]
 have jf : F30_j2 n st ha false = some false := rfl
 unfold F30 validV
 by_cases h0 : st = 0
 ·subst h0
  by_cases ha0 : ad = 0
  ·subst ha0; simp only [BEq.rfl, cond_true, jt]; simp
  ·simp [beqD, ha0, jf]
 ·by_cases h1 : st = 1
  ·subst h1
   by_cases g1 : 1 ≤ ad
   ·by_cases g2 : ad ≤ 127
    ·simp [beqD, g1, g2, jt]
    ·simp [beqD, g1, g2, jf]
   ·simp [beqD, g1, jf]
  ·by_cases h2 : st = 2
   ·subst h2
    by_cases g1 : 1 ≤ ad
    ·by_cases g2 : ad ≤ 127
     ·simp [beqD, g1, g2, jt]
     ·simp [beqD, g1, g2, jf]
    ·simp [beqD, g1, jf]
   ·simp [beqD, h0, h1, h2, jf]
theorem validR (n : Nat) (hn : 100 < n) (st ad ha : Int) : F39 n st ad ha = some (validV st ad ha) := by
 have e32 : F78 n 32 = some 4294967296 := twoV n 32 (by omega) (by omega)
 unfold F39 validV
 simp only [btw3, e32, Option.bind_some, w64 (n := 4294967296 - 1) (by omega) (by omega)]
 by_cases hs : 0 ≤ st ∧ st ≤ 2
 ·rw [decide_eq_true hs]
  by_cases hh : 0 ≤ ha ∧ ha ≤ 4294967296 - 1
  ·rw [decide_eq_true hh]
   obtain ⟨hs1, hs2⟩ := hs
   have h3 : ha < 4294967296 := by omega
   by_cases hz : ha = 0
   ·subst hz
    rcases (show st = 0 ∨ st = 1 ∨ st = 2 by omega) with rfl | rfl | rfl
    ·by_cases hd : ad = 0 <;> simp [beqD, hd]
    ·by_cases g : 1 ≤ ad ∧ ad ≤ 127 <;> simp [beqD, g]
    ·by_cases g : 1 ≤ ad ∧ ad ≤ 127 <;> simp [beqD, g]
   ·rcases (show st = 0 ∨ st = 1 ∨ st = 2 by omega) with rfl | rfl | rfl
    ·simp [beqD, hz]
    ·simp [beqD, hz]
    ·by_cases g : 1 ≤ ad ∧ ad ≤ 127 <;> simp [beqD, g, hh.1, h3]
  ·rw [decide_eq_false hh, decide_eq_false (fun h : (st = 0 ∧ ad = 0 ∨ (st = 1 ∨ st = 2) ∧ 1 ≤ ad ∧ ad ≤ 127) ∧ (0 ≤ ha ∧ ha < 4294967296) ∧ (ha = 0 ∨ st = 2) => hh ⟨h.2.1.1, by have := h.2.1.2; omega⟩)]
   rfl
 ·rw [decide_eq_false hs, decide_eq_false (fun h : (st = 0 ∧ ad = 0 ∨ (st = 1 ∨ st = 2) ∧ 1 ≤ ad ∧ ad ≤ 127) ∧ (0 ≤ ha ∧ ha < 4294967296) ∧ (ha = 0 ∨ st = 2) => by rcases h.1 with ⟨h1, _⟩ | ⟨h1 | h1, _⟩ <;> omega)]
  rfl
theorem valid_facts {st ad ha : Int} (h : validV st ad ha = true) : (0 ≤ st ∧ st ≤ 2) ∧ (0 ≤ ha ∧ ha < 4294967296) ∧ (st ≠ 2 → ha = 0) := by
 unfold validV at h
 have h := of_decide_eq_true h
 exact ⟨by rcases h.1 with ⟨h1, _⟩ | ⟨h1 | h1, _⟩ <;> omega, h.2.1, fun h2 => h.2.2.resolve_right h2⟩
def hasD (E : List CEnd) (e : Int) : Bool := E.any fun d => endA d == e
def hasF (Fs : List CFace) (e : Int) : Bool := Fs.any fun f => hasD f.2.2.2.2.2 e
def okF (Fs : List CFace) : Prop := Fs.length ≤ 4 ∧ ∀ f ∈ Fs, f.2.2.2.2.2.length ≤ 4 ∧ ∀ d ∈ f.2.2.2.2.2, endOk d
theorem hasIn (n : Nat) (hn : 100 < n) (k22 : Int → Option Bool) (Fs : List CFace) (x : Nat) (E : List CEnd) (hE : (Fs.getD x ((0 : Int), ((0 : Int), ((0 : Int), ((0 : Int), (([] : List (List UInt8)), ([] : List (Int × Bool × Int × Int × Int)))))))).2.2.2.2.2 = E) (h4 : E.length ≤ 4) (hok : ∀ d ∈ E, endOk d) (e : Int) :
  loopF (F92_l25 n k22 Fs e (x : Int)) n 0 = bif hasD E e then some true else k22 (IntKind.i64.wrap ((x : Int) + 1)) := by
 refine (loopF_eq (F92_l25 n k22 Fs e (x : Int)) (fun j => bif hasD (E.drop j.toNat) e then some true else k22 (IntKind.i64.wrap ((x : Int) + 1))) (fun y => ∃ j : Nat, y = (j : Int) ∧ j ≤ E.length) (fun y => E.length - y.toNat) ?_ n 0 ⟨0, rfl, by omega⟩ (by simp; omega)).trans (by simp)
 rintro kk y ⟨j, rfl, hj⟩ ih
 simp only [F92_l25, F92_j26, Int.toNat_natCast, hE]
 by_cases hjl : j < E.length
 ·have ek : ((j : Int) + 1).toNat = j + 1 := by omega
  have ih' := ih ((j : Int) + 1) ⟨j + 1, by omega, by omega⟩ (by simp only [Int.toNat_natCast, ek]; omega)
  rw [dropC E j ((0 : Int), (false, ((0 : Int), ((0 : Int), (0 : Int))))) hjl, decide_eq_true (show (j : Int) < (E.length : Int) by omega), inb_true (by omega) (by omega), w64 (n := (j : Int) + 1) (by omega) (by omega), ih', ek]
  have hd : endOk (E.getD j ((0 : Int), (false, ((0 : Int), ((0 : Int), (0 : Int)))))) := by
   rw [List.getD_eq_getElem?_getD, List.getElem?_eq_getElem hjl]; exact hok _ (List.getElem_mem hjl)
  generalize E.getD j ((0 : Int), (false, ((0 : Int), ((0 : Int), (0 : Int))))) = d at hd
  have hd1 := hd.1
  obtain ⟨a, b, c⟩ := d
  simp only [hasD, List.any_cons, endA] at hd1 ⊢
  cases b with
  | false => simp only [cond_true, cond_false, Bool.false_eq_true, if_false]; cases (a == e) <;> rfl
  | true => simp only [cond_true, if_true]; rw [w64 (n := a + 128) (by omega) (by omega)]; cases (a + 128 == e) <;> rfl
 ·rw [decide_eq_false (by omega), List.drop_of_length_le (by omega)]; rfl
theorem okF_get {Fs : List CFace} (h : okF Fs) (j : Nat) (hj : j < Fs.length) : (Fs.getD j ((0 : Int), ((0 : Int), ((0 : Int), ((0 : Int), (([] : List (List UInt8)), ([] : List (Int × Bool × Int × Int × Int)))))))).2.2.2.2.2.length ≤ 4 ∧ ∀ d ∈ (Fs.getD j ((0 : Int), ((0 : Int), ((0 : Int), ((0 : Int), (([] : List (List UInt8)), ([] : List (Int × Bool × Int × Int × Int)))))))).2.2.2.2.2, endOk d := by
 rw [List.getD_eq_getElem?_getD, List.getElem?_eq_getElem hj]; exact h.2 _ (List.getElem_mem hj)
theorem hasL (n : Nat) (hn : 100 < n) (Fs : List CFace) (hF : okF Fs) (e : Int) : loopF (F92_l22 n Fs e) n 0 = some (hasF Fs e) := by
 have h4 := hF.1
 refine (loopF_eq (F92_l22 n Fs e) (fun j => some (hasF (Fs.drop j.toNat) e)) (fun y => ∃ j : Nat, y = (j : Int) ∧ j ≤ Fs.length) (fun y => Fs.length - y.toNat) ?_ n 0 ⟨0, rfl, by omega⟩ (by simp; omega)).trans (by simp)
 rintro kk y ⟨j, rfl, hj⟩ ih
 simp only [F92_l22, Int.toNat_natCast]
 by_cases hjl : j < Fs.length
 ·have ek : ((j : Int) + 1).toNat = j + 1 := by omega
  have ih' := ih ((j : Int) + 1) ⟨j + 1, by omega, by omega⟩ (by simp only [Int.toNat_natCast, ek]; omega)
  have hg := okF_get hF j hjl
  rw [decide_eq_true (show (j : Int) < (Fs.length : Int) by omega), inb_true (by omega) (by omega), hasIn n hn kk Fs j _ rfl hg.1 hg.2 e, w64 (n := (j : Int) + 1) (by omega) (by omega), ih', ek, dropC Fs j ((0 : Int), ((0 : Int), ((0 : Int), ((0 : Int), (([] : List (List UInt8)), ([] : List (Int × Bool × Int × Int × Int))))))) hjl]
  simp only [cond_true, hasF, List.any_cons]
  cases hasD (Fs.getD j ((0 : Int), ((0 : Int), ((0 : Int), ((0 : Int), (([] : List (List UInt8)), ([] : List (Int × Bool × Int × Int × Int)))))))).2.2.2.2.2 e <;> rfl
 ·rw [decide_eq_false (by omega), List.drop_of_length_le (by omega)]; rfl
def bitNo (e : Nat) : Nat := if 128 ≤ e then e - 112 else e
def bitV (e : Nat) : Int × Bool := (((2 ^ bitNo e : Nat) : Int), true)
theorem hitD {E : List CEnd} (hok : ∀ d ∈ E, endOk d) {e : Nat} (h : hasD E (e : Int) = true) : (1 ≤ e ∧ e ≤ 15) ∨ (129 ≤ e ∧ e ≤ 143) := by
 unfold hasD at h
 rw [List.any_eq_true] at h
 obtain ⟨d, h1, h2⟩ := h
 have hd := (hok d h1).1
 have h3 : endA d = (e : Int) := by simpa using h2
 unfold endA at h3
 split at h3 <;> omega
theorem hitF {Fs : List CFace} (hF : okF Fs) {e : Nat} (h : hasF Fs (e : Int) = true) : (1 ≤ e ∧ e ≤ 15) ∨ (129 ≤ e ∧ e ≤ 143) := by
 unfold hasF at h
 rw [List.any_eq_true] at h
 obtain ⟨f, h1, h2⟩ := h
 exact hitD (hF.2 f h1).2 h2
theorem bitIn (n : Nat) (hn : 100 < n) (k7 : Int → Option (Int × Bool)) (Fs : List CFace) (x : Nat) (E : List CEnd) (hE : (Fs.getD x ((0 : Int), ((0 : Int), ((0 : Int), ((0 : Int), (([] : List (List UInt8)), ([] : List (Int × Bool × Int × Int × Int)))))))).2.2.2.2.2 = E) (h4 : E.length ≤ 4) (hok : ∀ d ∈ E, endOk d) (e : Nat) :
  loopF (F44_l8 n k7 Fs (e : Int) (x : Int)) n 0 = bif hasD E (e : Int) then some (bitV e) else k7 (IntKind.i64.wrap ((x : Int) + 1)) := by
 refine (loopF_eq (F44_l8 n k7 Fs (e : Int) (x : Int)) (fun j => bif hasD (E.drop j.toNat) (e : Int) then some (bitV e) else k7 (IntKind.i64.wrap ((x : Int) + 1))) (fun y => ∃ j : Nat, y = (j : Int) ∧ j ≤ E.length) (fun y => E.length - y.toNat) ?_ n 0 ⟨0, rfl, by omega⟩ (by simp; omega)).trans (by simp)
 rintro kk y ⟨j, rfl, hj⟩ ih
 simp only [F44_l8, Int.toNat_natCast, hE]
 by_cases hjl : j < E.length
 ·have ek : ((j : Int) + 1).toNat = j + 1 := by omega
  have ih' := ih ((j : Int) + 1) ⟨j + 1, by omega, by omega⟩ (by simp only [Int.toNat_natCast, ek]; omega)
  rw [dropC E j ((0 : Int), (false, ((0 : Int), ((0 : Int), (0 : Int))))) hjl, decide_eq_true (show (j : Int) < (E.length : Int) by omega), inb_true (by omega) (by omega), w64 (n := (j : Int) + 1) (by omega) (by omega), ih', ek]
  have hd : endOk (E.getD j ((0 : Int), (false, ((0 : Int), ((0 : Int), (0 : Int)))))) := by
   rw [List.getD_eq_getElem?_getD, List.getElem?_eq_getElem hjl]; exact hok _ (List.getElem_mem hjl)
  generalize E.getD j ((0 : Int), (false, ((0 : Int), ((0 : Int), (0 : Int))))) = d at hd
  have hd1 := hd.1
  obtain ⟨a, b, c⟩ := d
  simp only [hasD, List.any_cons, endA] at hd1 ⊢
  cases b with
  | false =>
   simp only [cond_true, cond_false, Bool.false_eq_true, if_false, Bool.not_false]
   by_cases he : a = (e : Int)
   ·rw [beq_iff_eq.2 he]
    have h0 : bitNo e = e := by unfold bitNo; rw [if_neg (by omega)]
    rw [twoV n e (by omega) (by omega)]
    simp only [cond_true, Option.bind_some, Bool.true_or, bitV, h0]
   ·rw [beq_eq_false_iff_ne.2 he]; rfl
  | true =>
   simp only [cond_true, cond_false, if_true, Bool.not_true]
   rw [w64 (n := a + 128) (by omega) (by omega)]
   by_cases he : a + 128 = (e : Int)
   ·rw [beq_iff_eq.2 he]
    have h0 : bitNo e = e - 112 := by unfold bitNo; rw [if_pos (by omega)]
    have h1 : IntKind.i64.wrap ((e : Int) - 112) = ((e - 112 : Nat) : Int) := by rw [w64 (by omega) (by omega)]; omega
    rw [h1, twoV n (e - 112) (by omega) (by omega)]
    simp only [cond_true, Option.bind_some, Bool.true_or, bitV, h0]
   ·rw [beq_eq_false_iff_ne.2 he]; rfl
 ·rw [decide_eq_false (by omega), List.drop_of_length_le (by omega)]; rfl
theorem bitL (n : Nat) (hn : 100 < n) (Fs : List CFace) (hF : okF Fs) (e : Nat) : loopF (F44_l7 n Fs (e : Int)) n 0 = some (bif hasF Fs (e : Int) then bitV e else (0, false)) := by
 have h4 := hF.1
 refine (loopF_eq (F44_l7 n Fs (e : Int)) (fun j => some (bif hasF (Fs.drop j.toNat) (e : Int) then bitV e else (0, false))) (fun y => ∃ j : Nat, y = (j : Int) ∧ j ≤ Fs.length) (fun y => Fs.length - y.toNat) ?_ n 0 ⟨0, rfl, by omega⟩ (by simp; omega)).trans (by simp)
 rintro kk y ⟨j, rfl, hj⟩ ih
 simp only [F44_l7, Int.toNat_natCast]
 by_cases hjl : j < Fs.length
 ·have ek : ((j : Int) + 1).toNat = j + 1 := by omega
  have ih' := ih ((j : Int) + 1) ⟨j + 1, by omega, by omega⟩ (by simp only [Int.toNat_natCast, ek]; omega)
  have hg := okF_get hF j hjl
  rw [decide_eq_true (show (j : Int) < (Fs.length : Int) by omega), inb_true (by omega) (by omega), bitIn n hn kk Fs j _ rfl hg.1 hg.2 e, w64 (n := (j : Int) + 1) (by omega) (by omega), ih', ek, dropC Fs j ((0 : Int), ((0 : Int), ((0 : Int), ((0 : Int), (([] : List (List UInt8)), ([] : List (Int × Bool × Int × Int × Int))))))) hjl]
  simp only [cond_true, hasF, List.any_cons]
  cases hasD (Fs.getD j ((0 : Int), ((0 : Int), ((0 : Int), ((0 : Int), (([] : List (List UInt8)), ([] : List (Int × Bool × Int × Int × Int)))))))).2.2.2.2.2 (e : Int) <;> rfl
 ·rw [decide_eq_false (by omega), List.drop_of_length_le (by omega)]; rfl
def hasV (Fs : List CFace) (e : Nat) : Bool := e == 0 || (e == 128 || hasF Fs (e : Int))
theorem hitV {Fs : List CFace} (hF : okF Fs) {e : Nat} (h : hasV Fs e = true) : e ≤ 15 ∨ (128 ≤ e ∧ e ≤ 143) := by
 unfold hasV at h
 simp only [Bool.or_eq_true, beq_iff_eq] at h
 rcases h with h | h | h
 ·omega
 ·omega
 ·rcases hitF hF h with h | h <;> omega
section
variable (u c s p m v r l k a z g cv cn ca cp : Int) (F : List CFace) (T : List Tx)
theorem hasP (n : Nat) (hn : 100 < n) (hF : okF F) (st ad ha : Int) (e : Nat) : F92 n u c s p m v r l k a z g cv cn ca cp F T st ad ha (e : Int) = some (hasV F e) := by
 unfold F92 hasV
 rw [hasL n hn F hF]
 by_cases h0 : e = 0
 ·subst h0; rfl
 ·rw [show ((e : Int) == 0) = false from beq_eq_false_iff_ne.2 (by omega), show (e == 0) = false from beq_eq_false_iff_ne.2 h0]
  by_cases h1 : e = 128
  ·subst h1; rfl
  ·rw [show ((e : Int) == 128) = false from beq_eq_false_iff_ne.2 (by omega), show (e == 128) = false from beq_eq_false_iff_ne.2 h1]; rfl
theorem hasR (n : Nat) (hn : 100 < n) (hF : okF F) (e : Nat) : F44 n u c s p m v r l k a z g cv cn ca cp F T (e : Int) = some (bif hasV F e then bitV e else (0, false)) := by
 unfold F44 hasV
 rw [bitL n hn F hF]
 by_cases h0 : e = 0
 ·subst h0
  have e1 : IntKind.i64.wrap ((((0 : Nat) : Int)).tdiv 8) = ((0 : Nat) : Int) := by decide
  rw [e1, twoV n 0 (by omega) (by omega)]; rfl
 ·rw [show ((e : Int) == 0) = false from beq_eq_false_iff_ne.2 (by omega), show (e == 0) = false from beq_eq_false_iff_ne.2 h0]
  by_cases h1 : e = 128
  ·subst h1
   have e1 : IntKind.i64.wrap ((((128 : Nat) : Int)).tdiv 8) = ((16 : Nat) : Int) := by decide
   rw [e1, twoV n 16 (by omega) (by omega)]; rfl
  ·rw [show ((e : Int) == 128) = false from beq_eq_false_iff_ne.2 (by omega), show (e == 128) = false from beq_eq_false_iff_ne.2 h1]; rfl
theorem bitP (e : Nat) (he : e ≤ 15 ∨ (128 ≤ e ∧ e ≤ 143)) : 0 ≤ IntKind.wrap .u64 (bitsI .and .i64 (e : Int) 15) ∧ (128 ≤ e → shlI .i64 (shlI .i64 1 (IntKind.wrap .u64 (bitsI .and .i64 (e : Int) 15))) 16 = ((2 ^ bitNo e : Nat) : Int)) ∧ (¬ 128 ≤ e → shlI .i64 1 (IntKind.wrap .u64 (bitsI .and .i64 (e : Int) 15)) = ((2 ^ bitNo e : Nat) : Int)) ∧ bitNo e < 32 := by
 have e1 : IntKind.wrap .u64 (bitsI .and .i64 (e : Int) 15) = ((e % 16 : Nat) : Int) := by
  have := bMask e 4 (by omega) (by omega)
  rw [show ((2 ^ 4 - 1 : Nat) : Int) = 15 from rfl] at this
  rw [this, u64w]; omega
 have hl : (2 : Nat) ^ (e % 16) < 2 ^ 16 := Nat.pow_lt_pow_right (by omega) (by omega)
 have e2 : shlI .i64 1 ((e % 16 : Nat) : Int) = ((2 ^ (e % 16) : Nat) : Int) := by
  have := shl_mul 1 (e % 16) (by omega) (by omega)
  simpa using this
 rw [e1]
 refine ⟨by omega, fun h => ?_, fun h => ?_, ?_⟩
 ·rw [e2]
  have := shl_mul (2 ^ (e % 16)) 16 (by omega) (by omega)
  rw [show ((16 : Nat) : Int) = 16 from rfl] at this
  rw [this, ← Nat.pow_add]
  unfold bitNo; rw [if_pos h, show e % 16 + 16 = e - 112 by omega]
 ·rw [e2]; unfold bitNo; rw [if_neg h, show e % 16 = e by omega]
 ·unfold bitNo; split <;> omega
theorem goF_ok : ∀ (Fs : List CFace) (len i : Nat) (rest : CTx) (A : List CK), (goF cv cn ca cp len i rest A Fs).2 = 0 → ∀ f ∈ Fs, f.2.2.2.2.2.length ≤ 4 ∧ ∀ d ∈ f.2.2.2.2.2, endOk d
 | [], _, _, _, _, _, f, hf => by simp at hf
 | f0 :: Fs, len, i, rest, A, h, f, hf => by
  simp only [goF] at h
  split at h
  ·rename_i h0
   rcases List.mem_cons.1 hf with rfl | hf
   ·have h5 := face_ok h0
    exact ⟨h5.2.2.2.1, endsE_ok _ _ h5.2.2.2.2⟩
   ·exact goF_ok Fs len (i + 1) _ _ h f hf
  ·rename_i h0
   exact absurd h h0
theorem conf_ok (h : (confV cv cn ca cp F).2 = 0) : (1 ≤ cv ∧ cv ≤ 255) ∧ okF F := by
 unfold confV at h
 split at h
 ·simp at h
 ·rename_i h1
  split at h
  ·simp at h
  ·exact ⟨Decidable.not_not.1 fun hh => h1 (.inl hh), by omega, goF_ok cv cn ca cp F _ _ _ _ h⟩
theorem l22_ok (n : Nat) (hn : 1100000 < n) (a b c d : Int) (F : List CFace) (hF : F.length ≤ 4) (T : List Tx) (hT : T.length ≤ 8) (ht : ∀ t ∈ T, t.length ≤ 1048576) (h0 : loopF (F8_l22 n a b c d F T) n 0 = some 0) : ∀ j, j < T.length → (textV (T.getD j [])).2 = 0 := by
 obtain ⟨r, h, hq⟩ := loopF_post (F8_l22 n a b c d F T) (fun x => ∃ j : Nat, x = (j : Int) ∧ j ≤ T.length) (fun x r => r = 0 → ∀ j, x.toNat ≤ j → j < T.length → (textV (T.getD j [])).2 = 0) (fun x => T.length - x.toNat) (by
  rintro kk x ⟨j, rfl, hj⟩ ih
  simp only [F8_l22, Int.toNat_natCast]
  by_cases hjl : j < T.length
  ·obtain ⟨r, h1, hr⟩ := ih ((j : Int) + 1) ⟨j + 1, by omega, by omega⟩ (by simp only [Int.toNat_natCast]; omega)
   have hl : (T.getD j []).length ≤ 1048576 := by
    rw [List.getD_eq_getElem?_getD, List.getElem?_eq_getElem hjl]; exact ht _ (List.getElem_mem hjl)
   rw [decide_eq_true (show (j : Int) < (T.length : Int) by omega), inb_true (by omega) (by omega), w64 (n := (j : Int) + 1) (by omega) (by omega), h1, textP n _ (by omega) (by omega)]
   simp only [cond_true, Option.bind_some]
   by_cases hz : (textV (T.getD j [])).2 = 0
   ·rw [hz]
    refine ⟨r, rfl, fun hr0 i hi hil => ?_⟩
    by_cases hij : i = j
    ·subst hij; exact hz
    ·exact hr hr0 i (by omega) hil
   ·rw [show ((textV (T.getD j [])).2 != 0) = true from bne_iff_ne.2 hz]
    exact ⟨_, rfl, fun h => absurd h hz⟩
  ·rw [decide_eq_false (by omega)]
   obtain ⟨r, h1⟩ := l25_some n F hF T [a, b, c, d] rfl (by omega)
   exact ⟨r, h1, fun _ i hi hil => by omega⟩) n 0 ⟨0, rfl, by omega⟩ (by simp; omega)
 rw [h0] at h
 exact fun j hj => hq (Option.some.inj h).symm j (by simp) hj
theorem sheetOK (n : Nat) (hn : 1100000 < n) (ht : ∀ t ∈ T, t.length ≤ 1048576) (h : F8 n u c s p m v r l k a z g cv cn ca cp F T = some 0) :
  (devVV u c s p m v r l k a z g).2 = 0 ∧ (confV cv cn ca cp F).2 = 0 ∧ T.length ≤ 8 ∧ ∀ j, j < T.length → (textV (T.getD j [])).2 = 0 := by
 unfold F8 at h
 rw [devP u c s p m v r l k a z g n (by omega), confP n (by omega)] at h
 simp only [Option.bind_some] at h
 by_cases h1 : (devVV u c s p m v r l k a z g).2 = 0
 ·rw [show ((devVV u c s p m v r l k a z g).2 != 0) = false from bne_eq_false_iff_eq.2 h1] at h
  by_cases h2 : g = 1
  ·subst h2
   by_cases h3 : (confV cv cn ca cp F).2 = 0
   ·rw [show ((confV cv cn ca cp F).2 != 0) = false from bne_eq_false_iff_eq.2 h3] at h
    by_cases h8 : ((T.length : Nat) : Int) > 8
    ·rw [decide_eq_true h8] at h
     exact absurd h (by simp)
    ·rw [decide_eq_false h8] at h
     exact ⟨h1, h3, by omega, l22_ok n hn _ _ _ _ F (conf_faces h3) T (by omega) ht h⟩
   ·rw [show ((confV cv cn ca cp F).2 != 0) = true from bne_iff_ne.2 h3] at h
    exact absurd (Option.some.inj h) h3
  ·rw [show (g != 1) = true from bne_iff_ne.2 h2] at h
   exact absurd h (by simp)
 ·rw [show ((devVV u c s p m v r l k a z g).2 != 0) = true from bne_iff_ne.2 h1] at h
  exact absurd (Option.some.inj h) h1
theorem descS (n : Nat) (hn : 1100000 < n) (ht : ∀ t ∈ T, t.length ≤ 1048576) (h1 : (devVV u c s p m v r l k a z g).2 = 0) (h2 : (confV cv cn ca cp F).2 = 0) (h3 : T.length ≤ 8) (h4 : ∀ j, j < T.length → (textV (T.getD j [])).2 = 0) (st ad ha : Int) (av : Nat) (hv : av < 65536) :
  ∃ (t : Tx) (ok : Bool), F62 n u c s p m v r l k a z g cv cn ca cp F T st ad ha (av : Int) = some (t, bif ok then 0 else 8) ∧ F42 n u c s p m v r l k a z g cv cn ca cp F T (av : Int) = some (t, ok) ∧ (ok = false → t = []) := by
 unfold F62 F42
 rw [devP u c s p m v r l k a z g n (by omega), devR u c s p m v r l k a z g n (by omega), confP n (by omega), confR n (by omega), btw3]
 simp only [Option.bind_some]
 by_cases c1 : av = 256
 ·subst c1
  exact ⟨_, true, by rw [h1]; rfl, rfl, fun h => by cases h⟩
 rw [show ((av : Int) == 256) = false from beq_eq_false_iff_ne.2 (by omega)]
 by_cases c2 : av = 512
 ·subst c2
  exact ⟨_, true, by rw [h2]; rfl, rfl, fun h => by cases h⟩
 rw [show ((av : Int) == 512) = false from beq_eq_false_iff_ne.2 (by omega), w64 (n := (av : Int) - 768) (by omega) (by omega), w64 (n := 768 + ((T.length : Nat) : Int)) (by omega) (by omega)]
 simp only [cond_false]
 by_cases c3 : av = 768
 ·subst c3
  exact ⟨_, true, rfl, rfl, fun h => by cases h⟩
 rw [show ((av : Int) - 768 == 0) = false from beq_eq_false_iff_ne.2 (by omega), show ((av : Int) == 768) = false from beq_eq_false_iff_ne.2 (by omega)]
 simp only [cond_false]
 by_cases c4 : 769 ≤ av
 ·rw [decide_eq_true (show (av : Int) - 768 ≥ 1 by omega)]
  by_cases c5 : av ≤ 768 + T.length
  ·rw [decide_eq_true (show (av : Int) - 768 ≤ ((T.length : Nat) : Int) by omega), decide_eq_true (show (769 : Int) ≤ (av : Int) ∧ (av : Int) ≤ 768 + ((T.length : Nat) : Int) by omega), w64 (n := (av : Int) - 768 - 1) (by omega) (by omega), w64 (n := (av : Int) - 769) (by omega) (by omega), show (av : Int) - 768 - 1 = (av : Int) - 769 by omega, inb_true (by omega) (by omega)]
   simp only [cond_true]
   obtain ⟨j, hj⟩ : ∃ j, ((av : Int) - 769).toNat = j := ⟨_, rfl⟩
   rw [hj]
   have hjl : j < T.length := by omega
   have hl : (T.getD j []).length ≤ 1048576 := by
    rw [List.getD_eq_getElem?_getD, List.getElem?_eq_getElem hjl]; exact ht _ (List.getElem_mem hjl)
   rw [textP n _ (by omega) (by omega), textR n _ (by omega) (by omega)]
   exact ⟨_, true, by simp only [Option.bind_some, h4 j hjl]; rfl, rfl, fun h => by cases h⟩
  ·rw [decide_eq_false (show ¬ (av : Int) - 768 ≤ ((T.length : Nat) : Int) by omega), decide_eq_false (show ¬ ((769 : Int) ≤ (av : Int) ∧ (av : Int) ≤ 768 + ((T.length : Nat) : Int)) by omega)]
   exact ⟨_, false, rfl, rfl, fun _ => rfl⟩
 ·rw [decide_eq_false (show ¬ (av : Int) - 768 ≥ 1 by omega), decide_eq_false (show ¬ ((769 : Int) ≤ (av : Int) ∧ (av : Int) ≤ 768 + ((T.length : Nat) : Int)) by omega)]
  exact ⟨_, false, rfl, rfl, fun _ => rfl⟩
end
section
variable (u c s p m v r l k a z g cv cn ca cp : Int) (F : List CFace) (T : List Tx)
theorem haltBitS (n : Nat) (st ad : Int) (h : Nat) (hh : h < 4294967296) (K : Int) (hK : K = 2 ∨ K = 3) (av al ai : Int) (b : Nat) (b4 : b < 32) (x : Int) (hx : x = ((2 ^ b : Nat) : Int)) :
  ∃ q, F13_j33 n st ad (h : Int) (K, av, ai, al, 0) x = some q ∧ (bif (x != 0) then (bif (((IntKind.wrap .i64 ((h : Int).tdiv x)).tmod 2) == 1) then (bif (K == 2) then (F21_j8 n st ad (h : Int) (K, av, ai, al, 0) (x, true) (IntKind.wrap .i64 ((h : Int) - x))) else (F21_j8 n st ad (h : Int) (K, av, ai, al, 0) (x, true) (h : Int))) else (bif (!(((IntKind.wrap .i64 ((h : Int).tdiv x)).tmod 2) == 1)) then (bif (K == 3) then (F21_j10 n st ad (IntKind.wrap .i64 ((h : Int) + x))) else (F21_j10 n st ad (h : Int))) else (some (st, ad, (h : Int), ([] : List UInt8), 0)))) else none) = some q := by
 have hpos : 0 < 2 ^ b := Nat.pow_pos (by omega)
 have hlt : (2 : Nat) ^ b < 2 ^ 32 := Nat.pow_lt_pow_right (by omega) b4
 have hon := bit_on h b hh b4
 have hoff := bit_off h b hh b4
 rw [← hx] at hon hoff
 have hx0 : 0 < x ∧ x < 4294967296 := by omega
 have hle : h / 2 ^ b % 2 = 1 → x ≤ (h : Int) := by
  intro hb
  have h1 : 1 ≤ h / 2 ^ b := Nat.pos_of_ne_zero fun hz => by rw [hz] at hb; exact absurd hb (by decide)
  have h2 : 2 ^ b ≤ h := (Nat.le_div_iff_mul_le hpos).1 h1 |> fun x => by simpa using x
  omega
 have hq : (IntKind.wrap .i64 ((h : Int).tdiv x)).tmod 2 = ((h / 2 ^ b % 2 : Nat) : Int) := by
  have := Nat.div_le_self h (2 ^ b)
  rw [hx, tdivN, w64n _ (by omega), show (2 : Int) = ((2 : Nat) : Int) from rfl, tmodN]
 have hadd : IntKind.wrap .i64 ((h : Int) + x) = (h : Int) + x := w64 (by omega) (by omega)
 generalize h / 2 ^ b % 2 = B at hon hoff hle hq
 clear hx hpos hlt
 simp only [F13_j33, F13_j34, F13_j32, F13_j26, F21_j8, F21_j10, F21_j9, hq]
 rw [hon, hoff, show (x != 0) = true from bne_iff_ne.2 (by omega)]
 by_cases hb : B = 1
 ·subst hb
  rw [if_pos rfl, if_pos rfl, w64 (n := (h : Int) - x) (by have := hle rfl; omega) (by omega)]
  rcases hK with rfl | rfl
  ·exact ⟨_, rfl, rfl⟩
  ·exact ⟨_, rfl, rfl⟩
 ·rw [if_neg hb, if_neg hb, hadd, show (((B : Nat) : Int) == 1) = false from beq_eq_false_iff_ne.2 (by omega)]
  rcases hK with rfl | rfl
  ·exact ⟨_, rfl, rfl⟩
  ·exact ⟨_, rfl, rfl⟩
theorem haltsS (n : Nat) (hn : 100 < n) (hF : okF F) (st ad : Int) (h : Nat) (hh : h < 4294967296) (K : Int) (hK : K = 2 ∨ K = 3) (av al : Int) (e : Nat) :
  ∃ q, (bif (st != 2) then (F13_j32 n st ad (h : Int) (8, (h : Int))) else ((F92 n u c s p m v r l k a z g cv cn ca cp F T st ad (h : Int) (e : Int)).bind fun y_10 => (bif (!y_10) then (F13_j32 n st ad (h : Int) (8, (h : Int))) else (bif (decide (0 ≤ (IntKind.wrap .u64 ((bitsI .and .i64 (e : Int) 15))))) then (bif (decide ((e : Int) ≥ 128)) then (F13_j33 n st ad (h : Int) (K, av, (e : Int), al, 0) (shlI .i64 (shlI .i64 1 (IntKind.wrap .u64 ((bitsI .and .i64 (e : Int) 15)))) 16)) else (F13_j33 n st ad (h : Int) (K, av, (e : Int), al, 0) (shlI .i64 1 (IntKind.wrap .u64 ((bitsI .and .i64 (e : Int) 15)))))) else none)))) = some q ∧ F21_j7 n u c s p m v r l k a z g cv cn ca cp F T st ad (h : Int) (K, av, (e : Int), al, 0) true = some q := by
 simp only [F21_j7, cond_true]
 rw [hasP u c s p m v r l k a z g cv cn ca cp F T n hn hF, hasR u c s p m v r l k a z g cv cn ca cp F T n hn hF]
 simp only [Option.bind_some]
 cases hv : hasV F e with
 | false =>
  simp only [Bool.not_false, cond_true, cond_false, F41, Option.bind_some]
  cases (st != 2)
  ·exact ⟨_, rfl, rfl⟩
  ·exact ⟨_, rfl, rfl⟩
 | true =>
  obtain ⟨b1, b2, b3, b4⟩ := bitP e (hitV hF hv)
  have hBV : bitV e = (((2 ^ bitNo e : Nat) : Int), true) := rfl
  rw [decide_eq_true b1]
  simp only [Bool.not_true, cond_true, cond_false, F41, Option.bind_some, hBV]
  obtain ⟨X, hX⟩ : ∃ X : Int, X = ((2 ^ bitNo e : Nat) : Int) := ⟨_, rfl⟩
  rw [← hX] at b2 b3 ⊢
  obtain ⟨q, q1, q2⟩ := haltBitS n st ad h hh K hK av al (e : Int) (bitNo e) b4 X hX
  cases (st != 2)
  ·simp only [cond_false]
   refine ⟨q, ?_, q2⟩
   by_cases h128 : 128 ≤ e
   ·rw [decide_eq_true (show (e : Int) ≥ 128 by omega), b2 h128, cond_true]; exact q1
   ·rw [decide_eq_false (show ¬ (e : Int) ≥ 128 by omega), b3 h128, cond_false]; exact q1
  ·exact ⟨_, rfl, rfl⟩
theorem controlS (n : Nat) (hn : 1100000 < n) (ht : ∀ t ∈ T, t.length ≤ 1048576) (st ad ha : Int) (ask : Tx) :
  ∃ q, F13 n u c s p m v r l k a z g cv cn ca cp F T st ad ha ask = some q ∧ F21 n u c s p m v r l k a z g cv cn ca cp F T st ad ha ask = some q := by
 obtain ⟨e, he1, he2⟩ := sheetS n hn u c s p m v r l k a z g cv cn ca cp F T ht
 obtain ⟨y, y1, y2, y3⟩ := Sa.askS n (by omega) ask
 unfold F13 F21
 rw [he1, he2, validP, validR n (by omega), y1, y2]
 simp only [Option.bind_some]
 by_cases h0 : e = 0
 rotate_left
 ·rw [show (e != 0) = true from bne_iff_ne.2 h0]; exact ⟨_, rfl, rfl⟩
 subst h0
 obtain ⟨o1, o2, o3, o4⟩ := sheetOK u c s p m v r l k a z g cv cn ca cp F T n hn ht he1
 obtain ⟨o5, hF⟩ := conf_ok cv cn ca cp F o2
 rw [show ((0 : Int) != 0) = false from rfl]
 simp only [cond_false]
 cases hV : validV st ad ha with
 | false => exact ⟨_, rfl, rfl⟩
 | true =>
 obtain ⟨f1, f2, f3⟩ := valid_facts hV
 simp only [Bool.not_true, cond_false]
 rcases y3 with y3 | ⟨ak, av, ai, al, h1, h14, hv, hi, hl, rfl⟩
 ·rw [show (y.2.2.2.2 != 0) = true from bne_iff_ne.2 y3]; exact ⟨_, rfl, rfl⟩
 simp only [show ((0 : Int) != 0) = false from rfl, cond_false]
 by_cases h8 : 8 ≤ ak
 ·rw [decide_eq_true (show (ak : Int) ≥ 8 by omega), show ((ak : Int) == 1) = false from beq_eq_false_iff_ne.2 (by omega), show ((ak : Int) == 5) = false from beq_eq_false_iff_ne.2 (by omega), show ((ak : Int) == 4) = false from beq_eq_false_iff_ne.2 (by omega), show ((ak : Int) == 6) = false from beq_eq_false_iff_ne.2 (by omega), show ((ak : Int) == 7) = false from beq_eq_false_iff_ne.2 (by omega), show ((ak : Int) == 2) = false from beq_eq_false_iff_ne.2 (by omega), show ((ak : Int) == 3) = false from beq_eq_false_iff_ne.2 (by omega)]
  exact ⟨_, rfl, rfl⟩
 have hj26 : ∀ (t : Tx) (x m1 m2 m3 : Int), F13_j26 n st ad ha (t, x, m1, m2, m3) = bif (x != 0) then some (st, ad, ha, [], x) else some (m1, m2, m3, t, 0) := fun _ _ _ _ _ => rfl
 generalize hK : (ak : Int) = K
 rw [decide_eq_false (show ¬ K ≥ 8 by omega)]
 simp only [cond_false]
 rcases (show K = 1 ∨ K = 5 ∨ K = 4 ∨ K = 6 ∨ K = 7 ∨ (K = 2 ∨ K = 3) by omega) with rfl | rfl | rfl | rfl | rfl | h23
 ·exact ⟨_, rfl, rfl⟩
 ·simp only [show ((5 : Int) == 1) = false from rfl, show ((5 : Int) == 5) = true from rfl, cond_false, cond_true]
  obtain ⟨t, ok, d1, d2, d3⟩ := descS u c s p m v r l k a z g cv cn ca cp F T n hn ht o1 o2 o3 o4 st ad ha av hv
  rw [d1, d2]
  simp only [Option.bind_some, hj26]
  cases ok with
  | false =>
   obtain rfl := d3 rfl
   have hm : (if (al : Int) < ((([] : Tx).length : Nat) : Int) then (al : Int) else ((([] : Tx).length : Nat) : Int)) = 0 := by rw [if_neg (by simp)]; rfl
   rw [hm]
   exact ⟨_, rfl, rfl⟩
  | true =>
   simp only [Bool.not_true, cond_false, cond_true, show ((0 : Int) != 0) = false from rfl, F21_j6]
   by_cases hc : (al : Int) < ((t.length : Nat) : Int)
   ·rw [if_pos hc, decide_eq_true (show ((t.length : Nat) : Int) > (al : Int) from hc), show subB t.length none (some (al : Int)) = true by simp [subB]; omega]
    exact ⟨_, rfl, rfl⟩
   ·rw [if_neg hc, decide_eq_false (show ¬ ((t.length : Nat) : Int) > (al : Int) from hc), show subB t.length none (some ((t.length : Nat) : Int)) = true by simp [subB]]
    simp only [cond_true, cond_false, Int.toNat_natCast, List.take_length]
    exact ⟨_, rfl, rfl⟩
 ·simp only [show ((4 : Int) == 1) = false from rfl, show ((4 : Int) == 5) = false from rfl, show ((4 : Int) == 4) = true from rfl, cond_false, cond_true, hj26]
  by_cases h2 : st = 2
  ·subst h2; exact ⟨_, rfl, rfl⟩
  ·rw [show (st == 2) = false from beq_eq_false_iff_ne.2 h2, f3 h2]
   by_cases h0 : av = 0
   ·subst h0; exact ⟨_, rfl, rfl⟩
   ·rw [show ((av : Int) == 0) = false from beq_eq_false_iff_ne.2 (by omega), if_neg (show ¬ (av : Int) < 1 by omega)]
    exact ⟨_, rfl, rfl⟩
 ·simp only [show ((6 : Int) == 1) = false from rfl, show ((6 : Int) == 5) = false from rfl, show ((6 : Int) == 4) = false from rfl, show ((6 : Int) == 6) = true from rfl, cond_false, cond_true]
  cases (st == 0)
  ·cases ((av : Int) == 0)
   ·cases ((av : Int) == cv)
    ·exact ⟨_, rfl, rfl⟩
    ·exact ⟨_, rfl, rfl⟩
   ·exact ⟨_, rfl, rfl⟩
  ·exact ⟨_, rfl, rfl⟩
 ·simp only [show ((7 : Int) == 1) = false from rfl, show ((7 : Int) == 5) = false from rfl, show ((7 : Int) == 4) = false from rfl, show ((7 : Int) == 6) = false from rfl, show ((7 : Int) == 7) = true from rfl, cond_false, cond_true]
  rcases (show st = 0 ∨ st = 1 ∨ st = 2 by omega) with rfl | rfl | rfl
  ·exact ⟨_, rfl, rfl⟩
  ·have e1 : IntKind.wrap .i64 (cv * IntKind.wrap .i64 ((1 : Int) - 1)) = 0 := by
    rw [show IntKind.wrap .i64 ((1 : Int) - 1) = 0 from by decide, Int.mul_zero]; decide
   rw [e1, bytesR n [0] (by simp; omega) (by simp)]
   exact ⟨_, rfl, rfl⟩
  ·have e1 : IntKind.wrap .i64 (cv * IntKind.wrap .i64 ((2 : Int) - 1)) = cv := by
    rw [show IntKind.wrap .i64 ((2 : Int) - 1) = 1 from by decide, Int.mul_one]; exact w64 (by omega) (by omega)
   rw [e1, bytesR n [cv] (by simp; omega) (by simp), if_pos (by simp only [allIn_cons, allIn_nil, and_true]; omega)]
   exact ⟨_, rfl, rfl⟩
 ·obtain ⟨h, rfl⟩ : ∃ h : Nat, ha = (h : Int) := ⟨ha.toNat, by omega⟩
  obtain ⟨q, q1, q2⟩ := haltsS u c s p m v r l k a z g cv cn ca cp F T n (by omega) hF st ad h (by omega) K h23 (av : Int) (al : Int) ai
  refine ⟨q, ?_, ?_⟩
  ·rw [← q1]
   rcases h23 with rfl | rfl <;> rfl
  ·rw [← q2]
   rcases h23 with rfl | rfl <;> rfl
end
end Go.Proofs.YtghbnolfadnoaaaGreat
