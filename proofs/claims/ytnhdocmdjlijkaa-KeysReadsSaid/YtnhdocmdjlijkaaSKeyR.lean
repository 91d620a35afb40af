/- Reports of keys, in plain Lean: the law KeysReads. -/
import Derived.Test.YtnhdocmdjlijkaaSKeyF
namespace Go.Proofs.Ytnhdocmdjlijkaa
open Go Go.RowKit
set_option linter.unusedVariables false

def modK (c : Nat) : Bool := decide (224 ≤ c) && decide (c ≤ 231)
def fN (l : List Nat) : Nat := l.foldl (fun a c => if modK c = true then a + 2 ^ (c - 224) else a) 0
def rN (l : List Nat) : List Nat := l.filter fun c => !modK c
theorem modK_iff (c : Nat) : modK c = true ↔ 224 ≤ c ∧ c ≤ 231 := by simp [modK]
theorem fN_snoc (l : List Nat) (c : Nat) : fN (l ++ [c]) = if modK c = true then fN l + 2 ^ (c - 224) else fN l := by simp [fN]
theorem rN_snoc (l : List Nat) (c : Nat) : rN (l ++ [c]) = if modK c = true then rN l else rN l ++ [c] := by
  unfold rN
  rw [List.filter_append]
  cases h : modK c <;> simp [h]
theorem rN_len (l : List Nat) : (rN l).length ≤ l.length := List.length_filter_le _ _
theorem fN_lt : ∀ (n : Nat) (l : List Nat) (m : Nat), l.length = n → List.Pairwise (· < ·) l → (∀ c ∈ l, c < m) → fN l < 2 ^ (m - 224)
  | 0, l, m, hl, _, _ => by
    obtain rfl := List.length_eq_zero_iff.1 hl
    exact Nat.two_pow_pos _
  | n + 1, l, m, hl, hp, hm => by
    rcases List.eq_nil_or_concat l with rfl | ⟨l', c, rfl⟩
    · simp at hl
    rw [List.concat_eq_append] at hl hp hm ⊢
    have hl' : l'.length = n := by simpa using hl
    have hp' := List.pairwise_append.1 hp
    rw [fN_snoc]
    have hc := hm c (by simp)
    by_cases h : modK c = true
    · rw [if_pos h]
      have h1 := fN_lt n l' c hl' hp'.1 (fun x hx => hp'.2.2 x hx c (by simp))
      have h2 := (modK_iff c).1 h
      have h3 : 2 ^ (c + 1 - 224) ≤ 2 ^ (m - 224) := Nat.pow_le_pow_right (by omega) (by omega)
      rw [show c + 1 - 224 = (c - 224) + 1 by omega, Nat.pow_succ] at h3
      omega
    · rw [if_neg h]
      exact fN_lt n l' m hl' hp'.1 (fun x hx => hm x (by simp [hx]))
theorem or8 : ∀ k : _root_.Fin 8, ∀ f : _root_.Fin 128, f.val < 2 ^ k.val → Go.bits .or .u8 ((f.val : Nat) : Int) (2 ^ k.val % 256) = ((f.val + 2 ^ k.val : Nat) : Int) := by decide +kernel
theorem wst_eq : ∀ (n : Nat) (l : List C256), l.length = n → List.Pairwise (· < ·) (l.map fun c => c.val) → wst l = (((fN (l.map fun c => c.val) : Nat) : Int), (rN (l.map fun c => c.val)).map fun c => ((c : Nat) : Int))
  | 0, l, hl, _ => by
    obtain rfl := List.length_eq_zero_iff.1 hl
    rfl
  | n + 1, l, hl, hp => by
    rcases List.eq_nil_or_concat l with rfl | ⟨l', c, rfl⟩
    · simp at hl
    rw [List.concat_eq_append] at hl hp ⊢
    rw [List.map_append] at hp
    have hp' := List.pairwise_append.1 hp
    have ih := wst_eq n l' (by simpa using hl) hp'.1
    rw [wst_snoc, ih, List.map_append, List.map_singleton, fN_snoc, rN_snoc, wstep]
    by_cases h : modK c.val = true
    · have h2 := (modK_iff c.val).1 h
      rw [if_pos h2, if_pos h, if_pos h]
      have h1 := fN_lt _ (l'.map fun c => c.val) c.val rfl hp'.1 (fun x hx => hp'.2.2 x hx c.val (by simp))
      have h3 : 2 ^ (c.val - 224) ≤ 2 ^ 7 := Nat.pow_le_pow_right (by omega) (by omega)
      have := or8 ⟨c.val - 224, by omega⟩ ⟨fN (l'.map fun c => c.val), by omega⟩ h1
      simp only at this
      unfold orB
      rw [this]
    · have h2 : ¬ (224 ≤ c.val ∧ c.val ≤ 231) := fun q => h ((modK_iff c.val).2 q)
      rw [if_neg h2, if_neg h, if_neg h, List.map_append]
      rfl
theorem betK (n : Nat) (c : Nat) : F50 n (c : Int) 224 231 = some (modK c) := by
  unfold F50 modK
  by_cases h : 224 ≤ c
  · rw [decide_eq_true (show (224 : Int) ≤ c by omega), decide_eq_true h, cond_true, Bool.true_and]
    congr 1
    by_cases h2 : c ≤ 231
    · rw [decide_eq_true h2, decide_eq_true (by omega)]
    · rw [decide_eq_false h2, decide_eq_false (by omega)]
  · rw [decide_eq_false (show ¬ (224 : Int) ≤ c by omega), decide_eq_false h]; rfl
/-- the codes, as numbers -/
def codL (b : BitsL) : List Nat := (List.range 256).filter (tb b)
theorem codL_sorted (b : BitsL) : List.Pairwise (· < ·) (codL b) := List.Pairwise.filter _ List.pairwise_lt_range
theorem codL_lt (b : BitsL) : ∀ c ∈ codL b, c < 256 := fun c hc => by simpa using (List.mem_filter.1 hc).1
theorem codL_len (b : BitsL) : (codL b).length ≤ 256 := Nat.le_trans (List.length_filter_le _ _) (by simp)
theorem codB (b : BitsL) (hb : G4 b) : (codesB b).map (fun c => c.val) = codL b := by
  have h1 : codesB b = (List.finRange 256).filter fun c : C256 => tb b c.val := by
    unfold codesB
    exact List.filter_congr fun c _ => hasB_tb b c.val hb c.isLt
  rw [h1]
  exact (codes_val (tb b) (fun c => c)).trans (by simp [codL])
def u8L (l : List Nat) : List UInt8 := l.map UInt8.ofNat
/-- what both answer -/
def repV (L : List Nat) : List UInt8 × Int :=
  if L.any (fun c => decide (c < 4)) = true then ([], 4)
  else if 6 < (rN L).length then ([UInt8.ofNat (fN L), 0, 1, 1, 1, 1, 1, 1], 0)
  else (UInt8.ofNat (fN L) :: 0 :: (u8L (rN L) ++ List.replicate (6 - (rN L).length) 0), 0)
theorem writeV_eq (b : BitsL) (hb : G4 b) : keysWriteV b = repV (codL b) := by
  have hw := wst_eq _ (codesB b) rfl (by rw [codB b hb]; exact codL_sorted b)
  rw [codB b hb] at hw
  have ha : (codesB b).any (fun c => decide (c.val < 4)) = (codL b).any fun c => decide (c < 4) := by
    rw [← codB b hb, List.any_map]; rfl
  unfold keysWriteV repV
  rw [ha, hw]
  simp only [List.length_map, Int.toNat_natCast]
  split
  · rfl
  · split
    · rfl
    · simp [u8L, List.map_append, List.map_map, Function.comp_def]
theorem wrap8 (x : Nat) : UInt8.ofNat (IntKind.wrap .u8 (x : Int)).toNat = UInt8.ofNat x := by
  have e : IntKind.wrap .u8 (x : Int) = ((x % 256 : Nat) : Int) := by rw [u8w]; omega
  rw [e, Int.toNat_natCast]
  apply UInt8.toNat_inj.1
  simp
theorem reportN (n : Nat) (hn : 400 < n) (b : BitsL) (hb : G4 b) : F15 n b = some (repV (codL b)) := by
  unfold F15
  rw [codesR n (by omega) b hb, Option.bind_some]
  have hlen := codL_len b
  have hlt := codL_lt b
  have hso := codL_sorted b
  show loopF (F15_l7 n ((codL b).map fun c => ((c : Nat) : Int))) n (0, [], 0) = _
  generalize codL b = L at *
  refine loopF_eq (F15_l7 n (L.map fun c => ((c : Nat) : Int))) (fun _ => some (repV L)) (fun d => ∃ k : Nat, d = (((fN (L.take k) : Nat) : Int), u8L (rN (L.take k)), (k : Int)) ∧ k ≤ L.length ∧ ∀ c ∈ L.take k, 4 ≤ c) (fun d => L.length - d.2.2.toNat) ?_ n _ ⟨0, rfl, by omega, by simp⟩ (by simp; omega)
  rintro kk d ⟨k, rfl, hk, hall⟩ ih
  simp only [F15_l7, Int.toNat_natCast, List.length_map]
  by_cases hkl : k < L.length
  · have hget : (L.map fun c => ((c : Nat) : Int)).getD k 0 = ((L[k] : Nat) : Int) := by
      rw [List.getD_eq_getElem?_getD, List.getElem?_map, List.getElem?_eq_getElem hkl]; rfl
    have htk : L.take (k + 1) = L.take k ++ [L[k]] := by rw [List.take_add_one, List.getElem?_eq_getElem hkl]; rfl
    rw [decide_eq_true (show (k : Int) < (L.length : Nat) by omega), inb_true (by omega) (show (k : Int) < ((L.length : Nat) : Int) by omega)]
    simp only [hget, cond_true]
    have hc256 := hlt L[k] (List.getElem_mem hkl)
    have hmem : L[k] ∈ L := List.getElem_mem hkl
    generalize hcv : L[k] = c at *
    by_cases h4 : c < 4
    · rw [decide_eq_true (show (c : Int) < 4 by omega)]
      have : L.any (fun c => decide (c < 4)) = true := List.any_eq_true.2 ⟨c, hmem, by simpa using h4⟩
      unfold repV
      rw [if_pos this]; rfl
    · have wk : IntKind.wrap .i64 ((k : Int) + 1) = ((k + 1 : Nat) : Int) := by rw [w64 (by omega) (by omega)]; omega
      rw [decide_eq_false (show ¬ (c : Int) < 4 by omega), betK]
      simp only [cond_false, Option.bind_some]
      have hall2 : ∀ x ∈ L.take (k + 1), 4 ≤ x := fun x hx => by
        rw [htk] at hx
        rcases List.mem_append.1 hx with h | h
        · exact hall x h
        · obtain rfl : x = c := by simpa using h
          omega
      have hpre : List.Pairwise (· < ·) (L.take k ++ [c]) := by rw [← htk]; exact hso.sublist (List.take_sublist _ _)
      have hf := fN_lt _ (L.take k) c rfl (List.pairwise_append.1 hpre).1 (fun x hx => (List.pairwise_append.1 hpre).2.2 x hx c (by simp))
      by_cases h : modK c = true
      · have h2 := (modK_iff c).1 h
        have h3 : 2 ^ (c - 224) ≤ 2 ^ 7 := Nat.pow_le_pow_right (by omega) (by omega)
        rw [h, cond_true, show IntKind.wrap .i64 ((c : Int) - 224) = ((c - 224 : Nat) : Int) by rw [w64 (by omega) (by omega)]; omega, twoP n (c - 224) (by omega) (by omega), Option.bind_some, wk, w64 (by omega) (by omega)]
        rw [ih _ ⟨k + 1, ?_, hkl, hall2⟩ (by simp only [Int.toNat_natCast]; omega)]
        rw [htk, fN_snoc, rN_snoc, if_pos h, if_pos h]
        simp
      · rw [show modK c = false by simpa using h, cond_false, wk]
        have hr := rN_len (L.take k)
        have hl1 : (u8L (rN (L.take k))).length ≤ 256 := by
          simp only [u8L, List.length_map]
          rw [List.length_take] at hr
          omega
        rw [decide_eq_true (show (u8L (rN (L.take k))).length + (strOf [IntKind.wrap .u8 ((c : Nat) : Int)]).length ≤ 9223372036854775807 by simp [strOf]; omega)]
        simp only [cond_true]
        rw [ih _ ⟨k + 1, ?_, hkl, hall2⟩ (by simp only [Int.toNat_natCast]; omega)]
        rw [htk, fN_snoc, rN_snoc, if_neg h, if_neg h]
        simp [u8L, strOf, wrap8]
  · obtain rfl : k = L.length := by omega
    rw [List.take_length] at hall ⊢
    rw [decide_eq_false (show ¬ ((L.length : Nat) : Int) < ((L.length : Nat) : Int) by omega)]
    have hno : ¬ L.any (fun c => decide (c < 4)) = true := fun h => by
      obtain ⟨x, hx1, hx2⟩ := List.any_eq_true.1 h
      have := hall x hx1
      simp at hx2
      omega
    have hr := rN_len L
    have hj : ∀ r : List UInt8, r.length ≤ 300 → F15_j8 n ((fN L : Nat) : Int) r = some ((UInt8.ofNat (fN L) :: 0 :: (r ++ [0, 0, 0, 0, 0, 0])).take 8, 0) := fun r hr => by
      unfold F15_j8
      have e1 : strOf [IntKind.wrap .u8 ((fN L : Nat) : Int), 0] = [UInt8.ofNat (fN L), 0] := by
        simp only [strOf, List.map_cons, List.map_nil, wrap8]; rfl
      simp only []
      rw [e1, decide_eq_true (show ([UInt8.ofNat (fN L), 0] : List UInt8).length + r.length ≤ 9223372036854775807 by simp; omega), decide_eq_true (show (([UInt8.ofNat (fN L), 0] : List UInt8) ++ r).length + ([0, 0, 0, 0, 0, 0] : List UInt8).length ≤ 9223372036854775807 by simp; omega),
        show subB (([UInt8.ofNat (fN L), 0] : List UInt8) ++ r ++ ([0, 0, 0, 0, 0, 0] : List UInt8)).length none (some 8) = true by simp [subB]; omega]
      rfl
    simp only [cond_false]
    have hul : (u8L (rN L)).length = (rN L).length := by simp [u8L]
    unfold repV
    rw [if_neg hno, hul]
    by_cases h6 : 6 < (rN L).length
    · rw [decide_eq_true (show ((((rN L).length : Nat)) : Int) > 6 by omega), if_pos h6, cond_true, hj _ (by simp)]
      rfl
    · rw [decide_eq_false (show ¬ ((((rN L).length : Nat)) : Int) > 6 by omega), if_neg h6, cond_false, hj _ (by omega)]
      congr 2
      rw [List.take_succ_cons, List.take_succ_cons, List.take_append, hul, List.take_of_length_le (by omega)]
      congr 3
      have : (rN L).length = 0 ∨ (rN L).length = 1 ∨ (rN L).length = 2 ∨ (rN L).length = 3 ∨ (rN L).length = 4 ∨ (rN L).length = 5 ∨ (rN L).length = 6 := by omega
      rcases this with h | h | h | h | h | h | h <;> rw [h] <;> rfl
theorem keysReadsN (n : Nat) (hn : 400 < n) (s : List UInt8) (hs : s.length ≤ 4611686018427387904) (b : BitsL) (hb : G4 b) : F3 n s b = some true := by
  unfold F3
  obtain ⟨r, h1, h2, _⟩ := readN n hn s hs
  rw [h1, h2, reportN n hn b hb]
  unfold F14
  rw [writeV_eq b hb]
  simp only [Option.bind_some]
  simp [Sh.beq_self]
theorem keysReads_says (a0 : Sh.T .str) (g0 : Sh.good .str a0) (v0 : Sh.rch .str a0) (a1 : Sh.T (.st (.arr 4 (.int .u64)))) (g1 : Sh.good (.st (.arr 4 (.int .u64))) a1) (v1 : Sh.rch (.st (.arr 4 (.int .u64))) a1) :
    ∃ n, F3 n a0 a1 = some true := by
  have hl : List.length a0 ≤ 140737488351232 := v0
  exact ⟨401, keysReadsN 401 (by omega) a0 (by omega) a1 (good_g4 _ g1)⟩
end Go.Proofs.Ytnhdocmdjlijkaa
