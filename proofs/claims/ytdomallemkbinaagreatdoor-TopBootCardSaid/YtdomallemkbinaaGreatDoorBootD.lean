import Derived.Test.YtdomallemkbinaaGreatDoorFtb
import Derived.Test.YtdomallemkbinaaGreatDoorAm26
import Derived.Test.YtdomallemkbinaaGreatDoorAm22
/- Sets of keys and their reports, in plain Lean (for TopBoot). -/
namespace Go.Proofs.YtdomallemkbinaaGreatDoor
open Go Go.RowKit
set_option linter.unusedVariables false

theorem ku64 (x : Nat) (h : x < 18446744073709551616) : IntKind.wrap .u64 (x : Int) = x := by rw [u64w]; omega
theorem kAnd (a b : Nat) (ha : a < 18446744073709551616) (hb : b < 18446744073709551616) : bitsI .and .u64 (a : Int) (b : Int) = ((a &&& b : Nat) : Int) := by
  have hx : a &&& b < 2 ^ 64 := Nat.and_lt_two_pow _ (by omega)
  show IntKind.u64.wrap ((BitVec.ofInt 64 (a : Int) &&& BitVec.ofInt 64 (b : Int)).toNat : Int) = _
  rw [BitVec.toNat_and, bv64 a (by omega), bv64 b (by omega), ku64 _ (by omega)]
theorem two64 (j : Nat) (hj : j < 64) : 2 ^ j < 18446744073709551616 := by
  have : 2 ^ j < 2 ^ 64 := Nat.pow_lt_pow_right (by omega) hj
  omega
theorem kShl (j : Nat) (hj : j < 64) : shlI .u64 1 (j : Int) = ((2 ^ j : Nat) : Int) := by
  unfold shlI
  rw [Int.toNat_natCast, Nat.min_eq_left (by simp [IntKind.bits]; omega), Int.one_mul]
  have := ku64 (2 ^ j) (two64 j hj)
  rw [← this]; simp
/-- a set of words that fit -/
structure G4 (b : BitsL) : Prop where
  len : b.length = 4
  fits : ∀ x ∈ b, 0 ≤ x ∧ x < 18446744073709551616
def wd (b : BitsL) (i : Nat) : Nat := (b.getD i 0).toNat
theorem G4.word {b : BitsL} (h : G4 b) (i : Nat) : b.getD i 0 = ((wd b i : Nat) : Int) ∧ wd b i < 18446744073709551616 := by
  unfold wd
  by_cases hi : i < b.length
  · have := h.fits (b.getD i 0) (by rw [List.getD_eq_getElem?_getD, List.getElem?_eq_getElem hi]; exact List.getElem_mem hi)
    omega
  · rw [List.getD_eq_getElem?_getD, List.getElem?_eq_none (by omega)]; exact ⟨rfl, by decide⟩
/-- is a code in the set? -/
def tb (b : BitsL) (c : Nat) : Bool := (wd b (c / 64)).testBit (c % 64)
theorem tdiv64 (c : Nat) : ((c : Nat) : Int).tdiv 64 = ((c / 64 : Nat) : Int) := by rw [Int.tdiv_eq_ediv_of_nonneg (by omega)]; omega
theorem tmod64 (c : Nat) : ((c : Nat) : Int).tmod 64 = ((c % 64 : Nat) : Int) := by rw [Int.tmod_eq_emod_of_nonneg (by omega)]; omega
theorem and_one (x : Nat) : ((((x &&& 1 : Nat) : Int)) == 1) = x.testBit 0 := by
  rw [Nat.and_one_is_mod, Nat.testBit_zero]
  by_cases h : x % 2 = 1
  · rw [h]; rfl
  · rw [show x % 2 = 0 by omega]; rfl
theorem hasP (n : Nat) (b : BitsL) (c : Nat) (hb : G4 b) (hc : c < 256) : F21 n b (c : Int) = some (tb b c) := by
  unfold F21
  obtain ⟨h1, h2⟩ := hb.word (c / 64)
  have hj : c % 64 < 64 := Nat.mod_lt _ (by omega)
  rw [tdiv64, tmod64, w64 (n := ((c / 64 : Nat) : Int)) (by omega) (by omega), inb_true (by omega) (by omega), ku64 (c % 64) (by omega), decide_eq_true (show (0 : Int) ≤ ((c % 64 : Nat) : Int) by omega), Int.toNat_natCast, h1, shr_div .u64 _ (c % 64) (by simp [IntKind.bits]; omega)]
  have e : (((wd b (c / 64) : Nat) : Int)) / 2 ^ (c % 64) = ((wd b (c / 64) / 2 ^ (c % 64) : Nat) : Int) := by simp
  have hlt : wd b (c / 64) / 2 ^ (c % 64) ≤ wd b (c / 64) := Nat.div_le_self _ _
  rw [e, show (1 : Int) = ((1 : Nat) : Int) from rfl, kAnd _ 1 (by omega) (by omega)]
  simp only [cond_true]
  have := and_one (wd b (c / 64) / 2 ^ (c % 64))
  rw [show ((1 : Nat) : Int) = 1 from rfl, this]
  unfold tb
  rw [Nat.testBit_div_two_pow, Nat.zero_add]
theorem hasB_tb (b : BitsL) (c : Nat) (hb : G4 b) (hc : c < 256) : hasB b c = tb b c := by
  unfold hasB
  rw [hasP 0 b c hb hc]; rfl
theorem fin_range : (List.finRange 256).map (fun c : C256 => c.val) = List.range 256 := by
  apply List.ext_getElem
  · simp
  · intro i h1 h2; simp
theorem codes_val {β : Type} (p : Nat → Bool) (g : Nat → β) : (((List.finRange 256).filter fun c : C256 => p c.val).map fun c => g c.val) = ((List.range 256).filter p).map g := by
  rw [← fin_range, List.filter_map, List.map_map]
  rfl
def modK (c : Nat) : Bool := decide (224 ≤ c) && decide (c ≤ 231)
def fN (l : List Nat) : Nat := l.foldl (fun a c => if modK c = true then a + 2 ^ (c - 224) else a) 0
def rN (l : List Nat) : List Nat := l.filter fun c => !modK c
theorem modK_iff (c : Nat) : modK c = true ↔ 224 ≤ c ∧ c ≤ 231 := by simp [modK]
theorem fN_snoc (l : List Nat) (c : Nat) : fN (l ++ [c]) = if modK c = true then fN l + 2 ^ (c - 224) else fN l := by simp [fN]
theorem rN_snoc (l : List Nat) (c : Nat) : rN (l ++ [c]) = if modK c = true then rN l else rN l ++ [c] := by
  unfold rN
  rw [List.filter_append]
  cases h : modK c <;> simp [h]
theorem fN_lt : ∀ (n : Nat) (l : List Nat) (m : Nat), l.length = n → List.Pairwise (· < ·) l → (∀ c ∈ l, c < m) → fN l < 2 ^ (m - 224)
  | 0, l, m, hl, _, _ => by
    obtain rfl := List.length_eq_zero_iff.1 hl
    exact Nat.two_pow_pos _
  | n + 1, l, m, hl, hp, hm => by
    rcases List.eq_nil_or_concat l with rfl | ⟨l', c, rfl⟩
    · simp at hl
    rw [List.concat_eq_append] at hl hp hm ⊢
    have hl' : l'.length = n := by simpa using hl
    have hp' := List.pairwise_append.1 hp
    rw [fN_snoc]
    have hc := hm c (by simp)
    by_cases h : modK c = true
    · rw [if_pos h]
      have h1 := fN_lt n l' c hl' hp'.1 (fun x hx => hp'.2.2 x hx c (by simp))
      have h2 := (modK_iff c).1 h
      have h3 : 2 ^ (c + 1 - 224) ≤ 2 ^ (m - 224) := Nat.pow_le_pow_right (by omega) (by omega)
      rw [show c + 1 - 224 = (c - 224) + 1 by omega, Nat.pow_succ] at h3
      omega
    · rw [if_neg h]
      exact fN_lt n l' m hl' hp'.1 (fun x hx => hm x (by simp [hx]))
theorem or8 : ∀ k : _root_.Fin 8, ∀ f : _root_.Fin 128, f.val < 2 ^ k.val → Go.bits .or .u8 ((f.val : Nat) : Int) (2 ^ k.val % 256) = ((f.val + 2 ^ k.val : Nat) : Int) := by decide +kernel
theorem wst_eq : ∀ (n : Nat) (l : List C256), l.length = n → List.Pairwise (· < ·) (l.map fun c => c.val) → wst l = (((fN (l.map fun c => c.val) : Nat) : Int), (rN (l.map fun c => c.val)).map fun c => ((c : Nat) : Int))
  | 0, l, hl, _ => by
    obtain rfl := List.length_eq_zero_iff.1 hl
    rfl
  | n + 1, l, hl, hp => by
    rcases List.eq_nil_or_concat l with rfl | ⟨l', c, rfl⟩
    · simp at hl
    rw [List.concat_eq_append] at hl hp ⊢
    rw [List.map_append] at hp
    have hp' := List.pairwise_append.1 hp
    have ih := wst_eq n l' (by simpa using hl) hp'.1
    rw [wst_snoc, ih, List.map_append, List.map_singleton, fN_snoc, rN_snoc, wstep]
    by_cases h : modK c.val = true
    · have h2 := (modK_iff c.val).1 h
      rw [if_pos h2, if_pos h, if_pos h]
      have h1 := fN_lt _ (l'.map fun c => c.val) c.val rfl hp'.1 (fun x hx => hp'.2.2 x hx c.val (by simp))
      have h3 : 2 ^ (c.val - 224) ≤ 2 ^ 7 := Nat.pow_le_pow_right (by omega) (by omega)
      have := or8 ⟨c.val - 224, by omega⟩ ⟨fN (l'.map fun c => c.val), by omega⟩ h1
      simp only at this
      unfold orB
      rw [this]
    · have h2 : ¬ (224 ≤ c.val ∧ c.val ≤ 231) := fun q => h ((modK_iff c.val).2 q)
      rw [if_neg h2, if_neg h, if_neg h, List.map_append]
      rfl
/-- the codes, as numbers -/
def codL (b : BitsL) : List Nat := (List.range 256).filter (tb b)
theorem codL_sorted (b : BitsL) : List.Pairwise (· < ·) (codL b) := List.Pairwise.filter _ List.pairwise_lt_range
theorem codL_lt (b : BitsL) : ∀ c ∈ codL b, c < 256 := fun c hc => by simpa using (List.mem_filter.1 hc).1
theorem codL_len (b : BitsL) : (codL b).length ≤ 256 := Nat.le_trans (List.length_filter_le _ _) (by simp)
theorem codB (b : BitsL) (hb : G4 b) : (codesB b).map (fun c => c.val) = codL b := by
  have h1 : codesB b = (List.finRange 256).filter fun c : C256 => tb b c.val := by
    unfold codesB
    exact List.filter_congr fun c _ => hasB_tb b c.val hb c.isLt
  rw [h1]
  exact (codes_val (tb b) (fun c => c)).trans (by simp [codL])
def u8L (l : List Nat) : List UInt8 := l.map UInt8.ofNat
/-- what both answer -/
def repV (L : List Nat) : List UInt8 × Int :=
  if L.any (fun c => decide (c < 4)) = true then ([], 4)
  else if 6 < (rN L).length then ([UInt8.ofNat (fN L), 0, 1, 1, 1, 1, 1, 1], 0)
  else (UInt8.ofNat (fN L) :: 0 :: (u8L (rN L) ++ List.replicate (6 - (rN L).length) 0), 0)
theorem writeV_eq (b : BitsL) (hb : G4 b) : keysWriteV b = repV (codL b) := by
  have hw := wst_eq _ (codesB b) rfl (by rw [codB b hb]; exact codL_sorted b)
  rw [codB b hb] at hw
  have ha : (codesB b).any (fun c => decide (c.val < 4)) = (codL b).any fun c => decide (c < 4) := by
    rw [← codB b hb, List.any_map]; rfl
  unfold keysWriteV repV
  rw [ha, hw]
  simp only [List.length_map, Int.toNat_natCast]
  split
  · rfl
  · split
    · rfl
    · simp [u8L, List.map_append, List.map_map, Function.comp_def]
end Go.Proofs.YtdomallemkbinaaGreatDoor

/- TopBoot in plain Lean: the codes of a set; the fields of the boot report. -/
namespace Go.Proofs.YtdomallemkbinaaGreatDoor
open Go Go.RowKit
set_option linter.unusedVariables false

theorem hasK (n : Nat) (b : BitsL) (c : Nat) (hb : G4 b) (hc : c < 256) : F16 n b (c : Int) = some (tb b c) := by
  unfold F16
  obtain ⟨h1, h2⟩ := hb.word (c / 64)
  have hj : c % 64 < 64 := Nat.mod_lt _ (by omega)
  rw [tdiv64, tmod64, w64 (n := ((c / 64 : Nat) : Int)) (by omega) (by omega), inb_true (by omega) (by omega), decide_eq_true (show (0 : Int) ≤ ((c % 64 : Nat) : Int) by omega), Int.toNat_natCast, h1, kShl _ hj]
  have hp : 0 < 2 ^ (c % 64) := Nat.two_pow_pos _
  have e0 : ((((2 ^ (c % 64) : Nat)) : Int) != 0) = true := by rw [bne_iff_ne]; omega
  have e1 : ((wd b (c / 64) : Nat) : Int).tdiv ((2 ^ (c % 64) : Nat) : Int) = ((wd b (c / 64) / 2 ^ (c % 64) : Nat) : Int) := by rw [Int.tdiv_eq_ediv_of_nonneg (by omega)]; simp
  have hlt : wd b (c / 64) / 2 ^ (c % 64) ≤ wd b (c / 64) := Nat.div_le_self _ _
  have e2 : ∀ x : Nat, ((x : Nat) : Int).tmod 2 = ((x % 2 : Nat) : Int) := fun x => by rw [Int.tmod_eq_emod_of_nonneg (by omega)]; omega
  rw [e0, e1, ku64 _ (by omega), e2]
  simp only [cond_true, Option.some.injEq]
  unfold tb
  rw [Nat.testBit_eq_decide_div_mod_eq]
  by_cases h : wd b (c / 64) / 2 ^ (c % 64) % 2 = 1
  · rw [h]; rfl
  · rw [show wd b (c / 64) / 2 ^ (c % 64) % 2 = 0 by omega]; rfl
theorem codesN (n : Nat) (hn : 300 < n) (b : BitsL) (hb : G4 b) : F8 n b = some ((codL b).map fun c => ((c : Nat) : Int)) := by
  unfold F8
  refine loopF_eq (F8_l2 n b) (fun _ => some ((codL b).map fun c => ((c : Nat) : Int))) (fun d => ∃ k : Nat, k ≤ 256 ∧ d = ((k : Int), ((List.range k).filter (tb b)).map fun c => ((c : Nat) : Int))) (fun d => 256 - d.1.toNat) ?_ n _ ⟨0, by omega, by simp⟩ (by simp; omega)
  rintro kk d ⟨k, hk, rfl⟩ ih
  simp only [F8_l2]
  by_cases hk2 : k < 256
  · have hlen : ((List.range k).filter (tb b)).length ≤ 256 := Nat.le_trans (List.length_filter_le _ _) (by simp; omega)
    rw [decide_eq_true (show (k : Int) < 256 by omega), hasK n b k hb hk2]
    simp only [cond_true, Option.bind_some]
    have e : IntKind.wrap .i64 ((k : Int) + 1) = ((k + 1 : Nat) : Int) := by rw [w64 (by omega) (by omega)]; omega
    cases ht : tb b k with
    | true =>
      simp only [cond_true]
      rw [decide_eq_true (by simp; omega), e]
      simp only [cond_true]
      refine ih _ ⟨k + 1, by omega, ?_⟩ (by simp; omega)
      rw [List.range_succ, List.filter_append]
      simp [ht]
    | false =>
      simp only [cond_false]
      rw [e]
      refine ih _ ⟨k + 1, by omega, ?_⟩ (by simp; omega)
      rw [List.range_succ, List.filter_append]
      simp [ht]
  · obtain rfl : k = 256 := by omega
    rfl
end Go.Proofs.YtdomallemkbinaaGreatDoor

/- TopBoot in plain Lean: the fields of the boot report; a field is set. -/
namespace Go.Proofs.YtdomallemkbinaaGreatDoor
open Go Go.RowKit
set_option linter.unusedVariables false
set_option maxRecDepth 100000

abbrev FldB := Int × Int × Int × Int × Int × Int × Bool
def itB : List (Int × Int) := [((29 : Int), (1 : Int)), ((37 : Int), (8 : Int)), ((9 : Int), (1 : Int)), ((32 : Int), (0 : Int)), ((29 : Int), (8 : Int)), ((37 : Int), (1 : Int)), ((32 : Int), (1 : Int)), ((37 : Int), (6 : Int)), ((9 : Int), (255 : Int)), ((32 : Int), (0 : Int))]
def flB : List FldB := [(0, 1, 0, 0, 0, 1, false), (1, 1, 0, 0, 0, 1, false), (2, 1, 0, 0, 0, 1, false), (3, 1, 0, 0, 0, 1, false), (4, 1, 0, 0, 0, 1, false), (5, 1, 0, 0, 0, 1, false), (6, 1, 0, 0, 0, 1, false), (7, 1, 0, 0, 0, 1, false), (8, 8, 0, 0, 0, 1, true), (16, 8, 0, 0, 0, 255, false), (24, 8, 0, 0, 0, 255, false), (32, 8, 0, 0, 0, 255, false), (40, 8, 0, 0, 0, 255, false), (48, 8, 0, 0, 0, 255, false), (56, 8, 0, 0, 0, 255, false)]
theorem itemsB : F5 1000 = some itB := rfl
theorem fieldsB : F4 1000 itB = some (0, flB) := by kernel_rfl
/-- one bit of a byte is set anew -/
def bitE (x v : Int) (i k : Int) : Int := bitsI .or .u8 (bitsI .andNot .u8 x (shlI .u8 (1 : Int) (IntKind.wrap .u64 k))) (shlI .u8 (IntKind.wrap .u8 (bitsI .and .i64 (shrI .i64 v (IntKind.wrap .u64 i)) (1 : Int))) (IntKind.wrap .u64 k))
def byteE (x v : Int) : Int := bitE (bitE (bitE (bitE (bitE (bitE (bitE (bitE x v 0 0) v 1 1) v 2 2) v 3 3) v 4 4) v 5 5) v 6 6) v 7 7
theorem byteE_ok : ∀ v : _root_.Fin 256, byteE 0 ((v.val : Nat) : Int) = ((v.val : Nat) : Int) := by decide +kernel
theorem bitE_ok : ∀ k : _root_.Fin 8, ∀ f : _root_.Fin 128, f.val < 2 ^ k.val → bitE ((f.val : Nat) : Int) 1 0 ((k.val : Nat) : Int) = ((f.val + 2 ^ k.val : Nat) : Int) := by decide +kernel
abbrev cI (b : UInt8) : Int := ((b.toNat : Nat) : Int)
theorem setM0 (b0 b1 b2 b3 b4 b5 b6 b7 : UInt8) : F9 1000 0 1 0 0 0 1 false [b0, b1, b2, b3, b4, b5, b6, b7] 1 = some (strOf [bitE (cI b0) 1 0 0, cI b1, cI b2, cI b3, cI b4, cI b5, cI b6, cI b7], 0) := by kernel_rfl
theorem setM1 (b0 b1 b2 b3 b4 b5 b6 b7 : UInt8) : F9 1000 1 1 0 0 0 1 false [b0, b1, b2, b3, b4, b5, b6, b7] 1 = some (strOf [bitE (cI b0) 1 0 1, cI b1, cI b2, cI b3, cI b4, cI b5, cI b6, cI b7], 0) := by kernel_rfl
theorem setM2 (b0 b1 b2 b3 b4 b5 b6 b7 : UInt8) : F9 1000 2 1 0 0 0 1 false [b0, b1, b2, b3, b4, b5, b6, b7] 1 = some (strOf [bitE (cI b0) 1 0 2, cI b1, cI b2, cI b3, cI b4, cI b5, cI b6, cI b7], 0) := by kernel_rfl
theorem setM3 (b0 b1 b2 b3 b4 b5 b6 b7 : UInt8) : F9 1000 3 1 0 0 0 1 false [b0, b1, b2, b3, b4, b5, b6, b7] 1 = some (strOf [bitE (cI b0) 1 0 3, cI b1, cI b2, cI b3, cI b4, cI b5, cI b6, cI b7], 0) := by kernel_rfl
theorem setM4 (b0 b1 b2 b3 b4 b5 b6 b7 : UInt8) : F9 1000 4 1 0 0 0 1 false [b0, b1, b2, b3, b4, b5, b6, b7] 1 = some (strOf [bitE (cI b0) 1 0 4, cI b1, cI b2, cI b3, cI b4, cI b5, cI b6, cI b7], 0) := by kernel_rfl
theorem setM5 (b0 b1 b2 b3 b4 b5 b6 b7 : UInt8) : F9 1000 5 1 0 0 0 1 false [b0, b1, b2, b3, b4, b5, b6, b7] 1 = some (strOf [bitE (cI b0) 1 0 5, cI b1, cI b2, cI b3, cI b4, cI b5, cI b6, cI b7], 0) := by kernel_rfl
theorem setM6 (b0 b1 b2 b3 b4 b5 b6 b7 : UInt8) : F9 1000 6 1 0 0 0 1 false [b0, b1, b2, b3, b4, b5, b6, b7] 1 = some (strOf [bitE (cI b0) 1 0 6, cI b1, cI b2, cI b3, cI b4, cI b5, cI b6, cI b7], 0) := by kernel_rfl
theorem setM7 (b0 b1 b2 b3 b4 b5 b6 b7 : UInt8) : F9 1000 7 1 0 0 0 1 false [b0, b1, b2, b3, b4, b5, b6, b7] 1 = some (strOf [bitE (cI b0) 1 0 7, cI b1, cI b2, cI b3, cI b4, cI b5, cI b6, cI b7], 0) := by kernel_rfl
theorem setL0 (b0 b1 b2 b3 b4 b5 b6 b7 : UInt8) (v : Int) : loopF (F9_l4 1000 16 8 v) 1000 (0, [cI b0, cI b1, cI b2, cI b3, cI b4, cI b5, cI b6, cI b7]) = some (strOf [cI b0, cI b1, byteE (cI b2) v, cI b3, cI b4, cI b5, cI b6, cI b7], 0) := by kernel_rfl
theorem setB0 (b0 b1 b2 b3 b4 b5 b6 b7 : UInt8) (v : Int) (h0 : 0 ≤ v) (h1 : v < 256) : F9 1000 16 8 0 0 0 255 false [b0, b1, b2, b3, b4, b5, b6, b7] v = some (strOf [cI b0, cI b1, byteE (cI b2) v, cI b3, cI b4, cI b5, cI b6, cI b7], 0) := by
  have e : F9 1000 16 8 0 0 0 255 false [b0, b1, b2, b3, b4, b5, b6, b7] v = F9_j3 1000 16 8 [b0, b1, b2, b3, b4, b5, b6, b7] v (0, 256) := by kernel_rfl
  rw [e]
  unfold F9_j3
  simp only []
  rw [decide_eq_false (show ¬ v < 0 by omega), decide_eq_false (show ¬ v ≥ 256 by omega)]
  exact setL0 b0 b1 b2 b3 b4 b5 b6 b7 v
theorem setL1 (b0 b1 b2 b3 b4 b5 b6 b7 : UInt8) (v : Int) : loopF (F9_l4 1000 24 8 v) 1000 (0, [cI b0, cI b1, cI b2, cI b3, cI b4, cI b5, cI b6, cI b7]) = some (strOf [cI b0, cI b1, cI b2, byteE (cI b3) v, cI b4, cI b5, cI b6, cI b7], 0) := by kernel_rfl
theorem setB1 (b0 b1 b2 b3 b4 b5 b6 b7 : UInt8) (v : Int) (h0 : 0 ≤ v) (h1 : v < 256) : F9 1000 24 8 0 0 0 255 false [b0, b1, b2, b3, b4, b5, b6, b7] v = some (strOf [cI b0, cI b1, cI b2, byteE (cI b3) v, cI b4, cI b5, cI b6, cI b7], 0) := by
  have e : F9 1000 24 8 0 0 0 255 false [b0, b1, b2, b3, b4, b5, b6, b7] v = F9_j3 1000 24 8 [b0, b1, b2, b3, b4, b5, b6, b7] v (0, 256) := by kernel_rfl
  rw [e]
  unfold F9_j3
  simp only []
  rw [decide_eq_false (show ¬ v < 0 by omega), decide_eq_false (show ¬ v ≥ 256 by omega)]
  exact setL1 b0 b1 b2 b3 b4 b5 b6 b7 v
theorem setL2 (b0 b1 b2 b3 b4 b5 b6 b7 : UInt8) (v : Int) : loopF (F9_l4 1000 32 8 v) 1000 (0, [cI b0, cI b1, cI b2, cI b3, cI b4, cI b5, cI b6, cI b7]) = some (strOf [cI b0, cI b1, cI b2, cI b3, byteE (cI b4) v, cI b5, cI b6, cI b7], 0) := by kernel_rfl
theorem setB2 (b0 b1 b2 b3 b4 b5 b6 b7 : UInt8) (v : Int) (h0 : 0 ≤ v) (h1 : v < 256) : F9 1000 32 8 0 0 0 255 false [b0, b1, b2, b3, b4, b5, b6, b7] v = some (strOf [cI b0, cI b1, cI b2, cI b3, byteE (cI b4) v, cI b5, cI b6, cI b7], 0) := by
  have e : F9 1000 32 8 0 0 0 255 false [b0, b1, b2, b3, b4, b5, b6, b7] v = F9_j3 1000 32 8 [b0, b1, b2, b3, b4, b5, b6, b7] v (0, 256) := by kernel_rfl
  rw [e]
  unfold F9_j3
  simp only []
  rw [decide_eq_false (show ¬ v < 0 by omega), decide_eq_false (show ¬ v ≥ 256 by omega)]
  exact setL2 b0 b1 b2 b3 b4 b5 b6 b7 v
theorem setL3 (b0 b1 b2 b3 b4 b5 b6 b7 : UInt8) (v : Int) : loopF (F9_l4 1000 40 8 v) 1000 (0, [cI b0, cI b1, cI b2, cI b3, cI b4, cI b5, cI b6, cI b7]) = some (strOf [cI b0, cI b1, cI b2, cI b3, cI b4, byteE (cI b5) v, cI b6, cI b7], 0) := by kernel_rfl
theorem setB3 (b0 b1 b2 b3 b4 b5 b6 b7 : UInt8) (v : Int) (h0 : 0 ≤ v) (h1 : v < 256) : F9 1000 40 8 0 0 0 255 false [b0, b1, b2, b3, b4, b5, b6, b7] v = some (strOf [cI b0, cI b1, cI b2, cI b3, cI b4, byteE (cI b5) v, cI b6, cI b7], 0) := by
  have e : F9 1000 40 8 0 0 0 255 false [b0, b1, b2, b3, b4, b5, b6, b7] v = F9_j3 1000 40 8 [b0, b1, b2, b3, b4, b5, b6, b7] v (0, 256) := by kernel_rfl
  rw [e]
  unfold F9_j3
  simp only []
  rw [decide_eq_false (show ¬ v < 0 by omega), decide_eq_false (show ¬ v ≥ 256 by omega)]
  exact setL3 b0 b1 b2 b3 b4 b5 b6 b7 v
theorem setL4 (b0 b1 b2 b3 b4 b5 b6 b7 : UInt8) (v : Int) : loopF (F9_l4 1000 48 8 v) 1000 (0, [cI b0, cI b1, cI b2, cI b3, cI b4, cI b5, cI b6, cI b7]) = some (strOf [cI b0, cI b1, cI b2, cI b3, cI b4, cI b5, byteE (cI b6) v, cI b7], 0) := by kernel_rfl
theorem setB4 (b0 b1 b2 b3 b4 b5 b6 b7 : UInt8) (v : Int) (h0 : 0 ≤ v) (h1 : v < 256) : F9 1000 48 8 0 0 0 255 false [b0, b1, b2, b3, b4, b5, b6, b7] v = some (strOf [cI b0, cI b1, cI b2, cI b3, cI b4, cI b5, byteE (cI b6) v, cI b7], 0) := by
  have e : F9 1000 48 8 0 0 0 255 false [b0, b1, b2, b3, b4, b5, b6, b7] v = F9_j3 1000 48 8 [b0, b1, b2, b3, b4, b5, b6, b7] v (0, 256) := by kernel_rfl
  rw [e]
  unfold F9_j3
  simp only []
  rw [decide_eq_false (show ¬ v < 0 by omega), decide_eq_false (show ¬ v ≥ 256 by omega)]
  exact setL4 b0 b1 b2 b3 b4 b5 b6 b7 v
theorem setL5 (b0 b1 b2 b3 b4 b5 b6 b7 : UInt8) (v : Int) : loopF (F9_l4 1000 56 8 v) 1000 (0, [cI b0, cI b1, cI b2, cI b3, cI b4, cI b5, cI b6, cI b7]) = some (strOf [cI b0, cI b1, cI b2, cI b3, cI b4, cI b5, cI b6, byteE (cI b7) v], 0) := by kernel_rfl
theorem setB5 (b0 b1 b2 b3 b4 b5 b6 b7 : UInt8) (v : Int) (h0 : 0 ≤ v) (h1 : v < 256) : F9 1000 56 8 0 0 0 255 false [b0, b1, b2, b3, b4, b5, b6, b7] v = some (strOf [cI b0, cI b1, cI b2, cI b3, cI b4, cI b5, cI b6, byteE (cI b7) v], 0) := by
  have e : F9 1000 56 8 0 0 0 255 false [b0, b1, b2, b3, b4, b5, b6, b7] v = F9_j3 1000 56 8 [b0, b1, b2, b3, b4, b5, b6, b7] v (0, 256) := by kernel_rfl
  rw [e]
  unfold F9_j3
  simp only []
  rw [decide_eq_false (show ¬ v < 0 by omega), decide_eq_false (show ¬ v ≥ 256 by omega)]
  exact setL5 b0 b1 b2 b3 b4 b5 b6 b7 v
end Go.Proofs.YtdomallemkbinaaGreatDoor

/- TopBoot in plain Lean: the law. -/
namespace Go.Proofs.YtdomallemkbinaaGreatDoor
open Go Go.RowKit
set_option linter.unusedVariables false
set_option maxRecDepth 100000

theorem row7 (t : List UInt8) (h : t.length = 7) : ∃ a b c d e f g, t = [a, b, c, d, e, f, g] := by
  match t, h with
  | [a, b, c, d, e, f, g], _ => exact ⟨a, b, c, d, e, f, g, rfl⟩
theorem setMA (j : Nat) (hj : j < 8) (f : Nat) (hf : f < 2 ^ j) (t : List UInt8) (ht : t.length = 7) :
    F9 1000 (j : Int) 1 0 0 0 1 false (UInt8.ofNat f :: t) 1 = some (UInt8.ofNat (f + 2 ^ j) :: t, 0) := by
  obtain ⟨b1, b2, b3, b4, b5, b6, b7, rfl⟩ := row7 t ht
  have h7 : f < 128 := Nat.lt_of_lt_of_le hf (Nat.le_trans (Nat.pow_le_pow_right (by omega) (show j ≤ 7 by omega)) (by omega))
  have hE := bitE_ok ⟨j, hj⟩ ⟨f, h7⟩ hf
  simp only at hE
  have e0 : cI (UInt8.ofNat f) = (f : Int) := by simp [cI]; omega
  have key : F9 1000 (j : Int) 1 0 0 0 1 false [UInt8.ofNat f, b1, b2, b3, b4, b5, b6, b7] 1 = some (strOf [bitE (cI (UInt8.ofNat f)) 1 0 (j : Int), cI b1, cI b2, cI b3, cI b4, cI b5, cI b6, cI b7], 0) := by
    match j, hj with
    | 0, _ => exact setM0 _ b1 b2 b3 b4 b5 b6 b7
    | 1, _ => exact setM1 _ b1 b2 b3 b4 b5 b6 b7
    | 2, _ => exact setM2 _ b1 b2 b3 b4 b5 b6 b7
    | 3, _ => exact setM3 _ b1 b2 b3 b4 b5 b6 b7
    | 4, _ => exact setM4 _ b1 b2 b3 b4 b5 b6 b7
    | 5, _ => exact setM5 _ b1 b2 b3 b4 b5 b6 b7
    | 6, _ => exact setM6 _ b1 b2 b3 b4 b5 b6 b7
    | 7, _ => exact setM7 _ b1 b2 b3 b4 b5 b6 b7
  rw [key, e0, hE]
  simp only [strOf, List.map_cons, List.map_nil, Int.toNat_natCast, UInt8.ofNat_toNat]
theorem setBA (b0 : UInt8) (c : Nat) (hc : c < 256) : ∀ (A : List UInt8), A.length < 6 →
    F9 1000 ((16 + 8 * A.length : Nat) : Int) 8 0 0 0 255 false (b0 :: 0 :: (A ++ List.replicate (6 - A.length) 0)) (c : Int) = some (b0 :: 0 :: (A ++ [UInt8.ofNat c] ++ List.replicate (5 - A.length) 0), 0) := by
  have hB := byteE_ok ⟨c, hc⟩
  simp only at hB
  have hz : cI 0 = 0 := rfl
  have h0 : (0 : Int) ≤ (c : Int) := by omega
  have h1 : (c : Int) < 256 := by omega
  intro A hA
  match A, hA with
  | [], _ =>
    refine (setB0 b0 0 0 0 0 0 0 0 (c : Int) h0 h1).trans ?_
    rw [hz, hB]; simp only [strOf, List.map_cons, List.map_nil, Int.toNat_natCast, UInt8.ofNat_toNat]; rfl
  | [a1], _ =>
    refine (setB1 b0 0 a1 0 0 0 0 0 (c : Int) h0 h1).trans ?_
    rw [hz, hB]; simp only [strOf, List.map_cons, List.map_nil, Int.toNat_natCast, UInt8.ofNat_toNat]; rfl
  | [a1, a2], _ =>
    refine (setB2 b0 0 a1 a2 0 0 0 0 (c : Int) h0 h1).trans ?_
    rw [hz, hB]; simp only [strOf, List.map_cons, List.map_nil, Int.toNat_natCast, UInt8.ofNat_toNat]; rfl
  | [a1, a2, a3], _ =>
    refine (setB3 b0 0 a1 a2 a3 0 0 0 (c : Int) h0 h1).trans ?_
    rw [hz, hB]; simp only [strOf, List.map_cons, List.map_nil, Int.toNat_natCast, UInt8.ofNat_toNat]; rfl
  | [a1, a2, a3, a4], _ =>
    refine (setB4 b0 0 a1 a2 a3 a4 0 0 (c : Int) h0 h1).trans ?_
    rw [hz, hB]; simp only [strOf, List.map_cons, List.map_nil, Int.toNat_natCast, UInt8.ofNat_toNat]; rfl
  | [a1, a2, a3, a4, a5], _ =>
    refine (setB5 b0 0 a1 a2 a3 a4 a5 0 (c : Int) h0 h1).trans ?_
    rw [hz, hB]; simp only [strOf, List.map_cons, List.map_nil, Int.toNat_natCast, UInt8.ofNat_toNat]; rfl
  | a :: b :: c :: d :: e :: f :: l, h => simp at h; omega
abbrev KB := (List UInt8 × Int × Int) → Option Bool
theorem j12M (kk : KB) (s : List UInt8) (x vat : Int) (j : Nat) (hj : j < 8) :
    F3_j12 1000 kk (0, flB) s x (vat, (j : Int), 1) = ((F9 1000 (j : Int) 1 0 0 0 1 false s 1).bind fun y => bif (y.2 != 0) then some false else kk (y.1, vat, IntKind.wrap .i64 (x + 1))) := by
  match j, hj with
  | 0, _ => rfl
  | 1, _ => rfl
  | 2, _ => rfl
  | 3, _ => rfl
  | 4, _ => rfl
  | 5, _ => rfl
  | 6, _ => rfl
  | 7, _ => rfl
theorem j12B (kk : KB) (s : List UInt8) (x vat v : Int) (m : Nat) (hm : m < 6) :
    F3_j12 1000 kk (0, flB) s x (vat, ((9 + m : Nat) : Int), v) = ((F9 1000 ((16 + 8 * m : Nat) : Int) 8 0 0 0 255 false s v).bind fun y => bif (y.2 != 0) then some false else kk (y.1, vat, IntKind.wrap .i64 (x + 1))) := by
  match m, hm with
  | 0, _ => rfl
  | 1, _ => rfl
  | 2, _ => rfl
  | 3, _ => rfl
  | 4, _ => rfl
  | 5, _ => rfl
def repS (P : List Nat) : List UInt8 := UInt8.ofNat (fN P) :: 0 :: (u8L (rN P) ++ List.replicate (6 - (rN P).length) 0)
theorem u8L_len (l : List Nat) : (u8L l).length = l.length := by simp [u8L]
theorem topBootN (b : BitsL) (hb : G4 b) : F3 1000 b = some true := by
  unfold F3
  rw [itemsB, Option.bind_some, fieldsB, Option.bind_some]
  unfold F6
  rw [writeV_eq b hb]
  show F3_j7 1000 b (0, flB) (repV (codL b)) ((repV (codL b)).2 != 0) = some true
  by_cases hany : (codL b).any (fun c => decide (c < 4)) = true
  · have : repV (codL b) = ([], 4) := by unfold repV; rw [if_pos hany]
    rw [this]
    rfl
  have h2 : (repV (codL b)).2 = 0 := by
    unfold repV; rw [if_neg hany]; split <;> rfl
  rw [h2]
  show ((F8 1000 b).bind fun y_6 => loopF (F3_l11 1000 (0, flB) (repV (codL b)) y_6) 1000 (([0, 0, 0, 0, 0, 0, 0, 0] : List UInt8), (9 : Int), (0 : Int))) = some true
  rw [codesN 1000 (by omega) b hb, Option.bind_some]
  have hlen := codL_len b
  have hlt := codL_lt b
  have hso := codL_sorted b
  generalize codL b = L at *
  have h4 : ∀ c ∈ L, 4 ≤ c := fun c hc => by
    apply Classical.byContradiction
    intro h
    exact hany (List.any_eq_true.2 ⟨c, hc, by simp; omega⟩)
  refine loopF_eq (F3_l11 1000 (0, flB) (repV L) (L.map fun c => ((c : Nat) : Int))) (fun _ => some true) (fun d => ∃ k : Nat, d = (repS (L.take k), ((9 + (rN (L.take k)).length : Nat) : Int), (k : Int)) ∧ k ≤ L.length ∧ (rN (L.take k)).length ≤ 6) (fun d => L.length - d.2.2.toNat) ?_ 1000 _ ⟨0, rfl, by omega, by simp [rN]⟩ (by simp; omega)
  rintro kk d ⟨k, rfl, hk, h6⟩ ih
  simp only [F3_l11, Int.toNat_natCast, List.length_map]
  by_cases hkl : k < L.length
  · have hget : (L.map fun c => ((c : Nat) : Int)).getD k 0 = ((L[k] : Nat) : Int) := by
      rw [List.getD_eq_getElem?_getD, List.getElem?_map, List.getElem?_eq_getElem hkl]; rfl
    have htk : L.take (k + 1) = L.take k ++ [L[k]] := by rw [List.take_add_one, List.getElem?_eq_getElem hkl]; rfl
    rw [decide_eq_true (show (k : Int) < (L.length : Nat) by omega), inb_true (by omega) (show (k : Int) < ((L.length : Nat) : Int) by omega)]
    simp only [hget, cond_true]
    have hc256 := hlt L[k] (List.getElem_mem hkl)
    have hc4 := h4 L[k] (List.getElem_mem hkl)
    generalize hcv : L[k] = c at *
    have wk : IntKind.wrap .i64 ((k : Int) + 1) = ((k + 1 : Nat) : Int) := by rw [w64 (by omega) (by omega)]; omega
    have hpre : List.Pairwise (· < ·) (L.take k ++ [c]) := by rw [← htk]; exact hso.sublist (List.take_sublist _ _)
    have hf := fN_lt _ (L.take k) c rfl (List.pairwise_append.1 hpre).1 (fun x hx => (List.pairwise_append.1 hpre).2.2 x hx c (by simp))
    by_cases h : modK c = true
    · have hr := (modK_iff c).1 h
      rw [decide_eq_true (show (c : Int) ≥ 224 by omega), decide_eq_true (show (c : Int) ≤ 231 by omega), show IntKind.wrap .i64 ((c : Int) - 224) = ((c - 224 : Nat) : Int) by rw [w64 (by omega) (by omega)]; omega]
      simp only [cond_true]
      rw [j12M kk _ _ _ (c - 224) (by omega)]
      unfold repS
      rw [setMA (c - 224) (by omega) _ hf _ (by simp [u8L_len]; omega), Option.bind_some]
      simp only [bne_self_eq_false, cond_false, wk]
      refine ih _ ⟨k + 1, ?_, by omega, ?_⟩ (by simp only [Int.toNat_natCast]; omega)
      · rw [htk]
        unfold repS
        rw [fN_snoc, rN_snoc, if_pos h, if_pos h]
      · rw [htk, rN_snoc, if_pos h]; exact h6
    · have hn : ¬ (224 ≤ c ∧ c ≤ 231) := fun q => h ((modK_iff c).2 q)
      have wv : IntKind.wrap .i64 (((9 + (rN (L.take k)).length : Nat) : Int) + 1) = ((9 + ((rN (L.take k)).length + 1) : Nat) : Int) := by rw [w64 (by omega) (by omega)]; omega
      have hstep : ∀ G : Option Bool, G = (bif decide (IntKind.wrap .i64 (((9 + (rN (L.take k)).length : Nat) : Int) + 1) > 15) then some true else
          ((F9 1000 ((16 + 8 * (rN (L.take k)).length : Nat) : Int) 8 0 0 0 255 false (repS (L.take k)) (c : Int)).bind fun y => bif (y.2 != 0) then some false else kk (y.1, IntKind.wrap .i64 (((9 + (rN (L.take k)).length : Nat) : Int) + 1), IntKind.wrap .i64 ((k : Int) + 1)))) → G = some true := by
        rintro G rfl
        rw [wv]
        by_cases h5 : (rN (L.take k)).length = 6
        · rw [decide_eq_true (by omega)]; rfl
        rw [decide_eq_false (by omega)]
        have hs := setBA (UInt8.ofNat (fN (L.take k))) c hc256 (u8L (rN (L.take k))) (by rw [u8L_len]; omega)
        rw [u8L_len] at hs
        unfold repS
        rw [hs]
        simp only [cond_false, Option.bind_some, bne_self_eq_false, wk]
        refine ih _ ⟨k + 1, ?_, by omega, ?_⟩ (by simp only [Int.toNat_natCast]; omega)
        · rw [htk]
          unfold repS
          rw [fN_snoc, rN_snoc, if_neg h, if_neg h, List.length_append, List.length_singleton, show 6 - ((rN (L.take k)).length + 1) = 5 - (rN (L.take k)).length by omega]
          simp [u8L]
        · rw [htk, rN_snoc, if_neg h, List.length_append, List.length_singleton]; omega
      refine hstep _ ?_
      by_cases h5 : (rN (L.take k)).length = 6
      · have hd : decide (IntKind.wrap .i64 (((9 + (rN (L.take k)).length : Nat) : Int) + 1) > 15) = true := by rw [wv]; exact decide_eq_true (by omega)
        rw [hd]
        by_cases h7 : 224 ≤ c
        · rw [decide_eq_true (show (c : Int) ≥ 224 by omega), decide_eq_false (show ¬ (c : Int) ≤ 231 by omega)]; rfl
        · rw [decide_eq_false (show ¬ (c : Int) ≥ 224 by omega)]; rfl
      · have hm : (rN (L.take k)).length < 6 := by omega
        have hd : decide (IntKind.wrap .i64 (((9 + (rN (L.take k)).length : Nat) : Int) + 1) > 15) = false := by rw [wv]; exact decide_eq_false (by omega)
        rw [hd]
        have hj := j12B kk (repS (L.take k)) (k : Int) (IntKind.wrap .i64 (((9 + (rN (L.take k)).length : Nat) : Int) + 1)) (c : Int) _ hm
        by_cases h7 : 224 ≤ c
        · rw [decide_eq_true (show (c : Int) ≥ 224 by omega), decide_eq_false (show ¬ (c : Int) ≤ 231 by omega)]
          simp only [cond_true, cond_false]
          exact hj
        · rw [decide_eq_false (show ¬ (c : Int) ≥ 224 by omega)]
          simp only [cond_false]
          rw [← hj]
          unfold F3_j12
          simp only [Int.toNat_natCast]
  · obtain rfl : k = L.length := by omega
    rw [List.take_length] at h6 ⊢
    rw [decide_eq_false (show ¬ ((L.length : Nat) : Int) < ((L.length : Nat) : Int) by omega)]
    simp only [cond_false, Option.some.injEq]
    have : (repV L).1 = repS L := by
      unfold repV repS
      rw [if_neg hany, if_neg (by omega)]
    rw [this, beq_self_eq_true]
theorem good_g4 (b : BitsL) (h : Sh.good (.st (.arr 4 (.int .u64))) b) : G4 b := by
  refine ⟨h.1, fun x hx => ?_⟩
  have h' : (Lit.int .u64 x).wf = true := h.2 x hx
  have e1 : IntKind.u64.min = 0 := by decide
  have e2 : IntKind.u64.max = 18446744073709551615 := by decide
  simp only [Lit.wf, e1, e2, Bool.and_eq_true, decide_eq_true_eq] at h'
  omega
theorem topBoot_says (a0 : Sh.T (.st (.arr 4 (.int .u64)))) (g0 : Sh.good (.st (.arr 4 (.int .u64))) a0) : ∃ n, F3 n a0 = some true := ⟨1000, topBootN a0 (good_g4 _ g0)⟩
end Go.Proofs.YtdomallemkbinaaGreatDoor
