/- Commands of a disk: done; in plain Lean. -/
import Derived.Test.YtbodjbpgdkkohaaSScsi
namespace Go.Proofs.Ytbodjbpgdkkohaa
open Go Go.RowKit
set_option linter.unusedVariables false

def lbaV (c : DTx) : Nat := ((by' c 2 * 256 + by' c 3) * 256 + by' c 4) * 256 + by' c 5
def cntV (c : DTx) : Nat := by' c 7 * 256 + by' c 8
theorem lba_lt (c : DTx) : lbaV c < 4294967296 := by
  have h1 := by_lt c 2; have h2 := by_lt c 3; have h3 := by_lt c 4; have h4 := by_lt c 5
  unfold lbaV; omega
theorem cnt_lt (c : DTx) : cntV c < 65536 := by
  have h1 := by_lt c 7; have h2 := by_lt c 8
  unfold cntV; omega
theorem orHi (h l k : Nat) (hl : l < 2 ^ k) (hb : h * 2 ^ k + l < 9223372036854775808) : bitsI .or .i64 ((h * 2 ^ k : Nat) : Int) (l : Int) = ((h * 2 ^ k + l : Nat) : Int) := by
  rw [bOr _ _ (by omega) (by omega), Nat.or_comm, nat_or_add l h k hl, Nat.add_comm]
theorem lbaBits (c : DTx) : bitsI .or .i64 (bitsI .or .i64 (bitsI .or .i64 (shlI .i64 (IntKind.wrap .i64 (((c.getD 2 0).toNat : Nat) : Int)) 24) (shlI .i64 (IntKind.wrap .i64 (((c.getD 3 0).toNat : Nat) : Int)) 16)) (shlI .i64 (IntKind.wrap .i64 (((c.getD 4 0).toNat : Nat) : Int)) 8)) (IntKind.wrap .i64 (((c.getD 5 0).toNat : Nat) : Int)) = ((lbaV c : Nat) : Int) := by
  have h1 := by_lt c 2; have h2 := by_lt c 3; have h3 := by_lt c 4; have h4 := by_lt c 5
  unfold lbaV
  unfold by' at h1 h2 h3 h4 ⊢
  generalize (c.getD 2 0).toNat = x at *
  generalize (c.getD 3 0).toNat = y at *
  generalize (c.getD 4 0).toNat = z at *
  generalize (c.getD 5 0).toNat = w at *
  have s1 : shlI .i64 (x : Int) 24 = ((x * 2 ^ 24 : Nat) : Int) := shl_mul x 24 (by omega) (by omega)
  have s2 : shlI .i64 (y : Int) 16 = ((y * 2 ^ 16 : Nat) : Int) := shl_mul y 16 (by omega) (by omega)
  have s3 : shlI .i64 (z : Int) 8 = ((z * 2 ^ 8 : Nat) : Int) := shl_mul z 8 (by omega) (by omega)
  rw [w64n x (by omega), w64n y (by omega), w64n z (by omega), w64n w (by omega), s1, s2, s3, orHi x (y * 2 ^ 16) 24 (by omega) (by omega), show x * 2 ^ 24 + y * 2 ^ 16 = (x * 256 + y) * 2 ^ 16 by omega,
    orHi (x * 256 + y) (z * 2 ^ 8) 16 (by omega) (by omega), show (x * 256 + y) * 2 ^ 16 + z * 2 ^ 8 = ((x * 256 + y) * 256 + z) * 2 ^ 8 by omega, orHi _ w 8 (by omega) (by omega)]
theorem cntBits (c : DTx) : bitsI .or .i64 (shlI .i64 (IntKind.wrap .i64 (((c.getD 7 0).toNat : Nat) : Int)) 8) (IntKind.wrap .i64 (((c.getD 8 0).toNat : Nat) : Int)) = ((cntV c : Nat) : Int) := by
  have h1 := by_lt c 7; have h2 := by_lt c 8
  unfold cntV
  unfold by' at h1 h2 ⊢
  generalize (c.getD 7 0).toNat = x at *
  generalize (c.getD 8 0).toNat = y at *
  have s1 : shlI .i64 (x : Int) 8 = ((x * 2 ^ 8 : Nat) : Int) := shl_mul x 8 (by omega) (by omega)
  rw [w64n x (by omega), w64n y (by omega), s1, orHi x y 8 (by omega) (by omega)]
theorem cntW (c : DTx) : IntKind.wrap .i64 (IntKind.wrap .i64 (IntKind.wrap .i64 (((c.getD 7 0).toNat : Nat) : Int) * 256) + IntKind.wrap .i64 (((c.getD 8 0).toNat : Nat) : Int)) = ((cntV c : Nat) : Int) := by
  have h1 := by_lt c 7; have h2 := by_lt c 8
  unfold cntV
  unfold by' at h1 h2 ⊢
  generalize (c.getD 7 0).toNat = x at *
  generalize (c.getD 8 0).toNat = y at *
  rw [w64n x (by omega), w64n y (by omega), w64 (n := (x : Int) * 256) (by omega) (by omega), w64 (by omega) (by omega)]
  omega
def senV (D : List DTx) (c data : DTx) : Int × Int × Int :=
  if formV c ≠ 0 then (formV c, 0, 0) else if c.length = 6 ∨ by' c 0 = 37 then (0, 0, 0) else if D.length < lbaV c + cntV c then (33, 0, 0) else if by' c 0 = 42 ∧ data.length ≠ 16 * cntV c then (36, 0, 0) else (0, (lbaV c : Int), (cntV c : Int))
def pv (c : DTx) : Nat → Nat
  | 0 => 0
  | k + 1 => 256 * pv c k + by' c (k + 2)
theorem pv4 (c : DTx) : pv c 4 = lbaV c := by
  simp only [pv, lbaV, Nat.reduceAdd]; omega
theorem pv_lt (c : DTx) (k : Nat) (hk : k ≤ 4) : pv c k < 4294967296 := by
  have h1 := by_lt c 2; have h2 := by_lt c 3; have h3 := by_lt c 4; have h4 := by_lt c 5
  have : k = 0 ∨ k = 1 ∨ k = 2 ∨ k = 3 ∨ k = 4 := by omega
  rcases this with rfl | rfl | rfl | rfl | rfl <;> simp only [pv, Nat.reduceAdd] <;> omega
theorem l2345 (k : Nat) (hk : k < 4) : ([2, 3, 4, 5] : List Int).getD k 0 = ((k + 2 : Nat) : Int) := by
  have : k = 0 ∨ k = 1 ∨ k = 2 ∨ k = 3 := by omega
  rcases this with rfl | rfl | rfl | rfl <;> rfl
theorem tailS (n : Nat) (hn : 100 < n) (D : List DTx) (hD : D.length ≤ 64) (c data : DTx) (hc : c.length = 10) (hd : data.length ≤ 140737488355328) :
    loopF (F25_l14 n D c data) n (0, 0) = some (if D.length < lbaV c + cntV c then (33, 0, 0) else if by' c 0 = 42 ∧ data.length ≠ 16 * cntV c then (36, 0, 0) else (0, (lbaV c : Int), (cntV c : Int))) := by
  have hlen : ([2, 3, 4, 5] : List Int).length = 4 := rfl
  refine loopF_eq (F25_l14 n D c data) (fun _ => some (if D.length < lbaV c + cntV c then (33, 0, 0) else if by' c 0 = 42 ∧ data.length ≠ 16 * cntV c then (36, 0, 0) else (0, (lbaV c : Int), (cntV c : Int)))) (fun d => ∃ k : Nat, k ≤ 4 ∧ d = (((pv c k : Nat) : Int), (k : Int))) (fun d => 4 - d.2.toNat) ?_ n (0, 0) ⟨0, by omega, rfl⟩ (by simp; omega)
  rintro kk d ⟨k, hk, rfl⟩ ih
  have hl := lba_lt c
  have hcn := cnt_lt c
  simp only [F25_l14, Int.toNat_natCast, hlen, cntW]
  by_cases hk4 : k < 4
  · have hp := pv_lt c k hk
    have hb := by_lt c (k + 2)
    have hb2 : (c.getD (k + 2) 0).toNat = by' c (k + 2) := rfl
    rw [decide_eq_true (show (k : Int) < ((4 : Nat) : Int) by omega), inb_true (by omega) (by omega), l2345 k hk4, inb_true (by omega) (by omega)]
    simp only [cond_true, Int.toNat_natCast, hb2]
    rw [w64 (n := 256 * ((pv c k : Nat) : Int)) (by omega) (by omega), w64n _ (by omega), w64 (n := (k : Int) + 1) (by omega) (by omega), w64 (by omega) (by omega)]
    refine ih _ ⟨k + 1, by omega, ?_⟩ (by simp only [Int.toNat_natCast]; omega)
    simp only [pv]
    ext <;> simp
  · obtain rfl : k = 4 := by omega
    rw [decide_eq_false (by omega), pv4]
    simp only [cond_false]
    rw [w64 (n := ((lbaV c : Nat) : Int) + ((cntV c : Nat) : Int)) (by omega) (by omega), w64 (n := 16 * ((cntV c : Nat) : Int)) (by omega) (by omega)]
    by_cases h1 : D.length < lbaV c + cntV c
    · rw [decide_eq_true (by omega), if_pos h1]; rfl
    · rw [decide_eq_false (by omega), if_neg h1]
      simp only [cond_false]
      by_cases h42 : by' c 0 = 42
      · rw [show ((((c.getD 0 0).toNat : Nat) : Int) == 42) = true from beq_iff_eq.2 (by unfold by' at h42; omega)]
        simp only [cond_true]
        by_cases hdl : data.length = 16 * cntV c
        · rw [show (((data.length : Nat) : Int) != 16 * ((cntV c : Nat) : Int)) = false from bne_eq_false_iff_eq.2 (by omega), if_neg (by omega)]; rfl
        · rw [show (((data.length : Nat) : Int) != 16 * ((cntV c : Nat) : Int)) = true from bne_iff_ne.2 (by omega), if_pos ⟨h42, hdl⟩]; rfl
      · rw [show ((((c.getD 0 0).toNat : Nat) : Int) == 42) = false from beq_eq_false_iff_ne.2 (by unfold by' at h42; omega), if_neg (by omega)]; rfl
theorem senP (n : Nat) (hn : 100 < n) (D : List DTx) (hD : D.length ≤ 64) (sn : Int) (c data : DTx) (hd : data.length ≤ 140737488355328) : F25 n D sn c data = some (senV D c data) := by
  unfold F25 senV formV
  by_cases h0 : c = []
  · subst h0; rfl
  have hc : 0 < c.length := List.length_pos_iff.2 h0
  rw [show (c == []) = false from beq_eq_false_iff_ne.2 h0, if_neg h0, inb_true (by omega) (by omega), maskP]
  simp only [cond_false, cond_true, Option.bind_some]
  rw [show (((c.getD 0 0).toNat : Nat) : Int) = ((by' c 0 : Nat) : Int) from rfl]
  cases hcl : cls ((by' c 0 : Nat) : Int) with
  | none => rfl
  | some um =>
    obtain ⟨u, m⟩ := um
    obtain ⟨hmo, hm, hu⟩ := cls_ok hcl
    have hm0 : m ≠ [] := by
      intro e; subst e; simp at hm; split at hm <;> omega
    have hm10 : m.length ≤ 10 := by rw [hm]; split <;> omega
    simp only
    rw [show (m == []) = false from beq_eq_false_iff_ne.2 hm0]
    simp only [cond_false]
    by_cases hl : c.length = m.length
    · rw [show (((m.length : Nat) : Int) != ((c.length : Nat) : Int)) = false from bne_eq_false_iff_eq.2 (by omega), if_neg (show ¬ c.length ≠ m.length by omega)]
      simp only [cond_false]
      obtain ⟨V, hV⟩ : ∃ V : Int × Int × Int, (if badFrom u c 1 (m.length - 1) = true then ((36 : Int), (0 : Int), (0 : Int)) else if by' c 0 = 26 ∧ by' c 2 ≠ 63 then (36, 0, 0) else if c.length = 6 ∨ by' c 0 = 37 then (0, 0, 0) else if D.length < lbaV c + cntV c then (33, 0, 0) else if by' c 0 = 42 ∧ data.length ≠ 16 * cntV c then (36, 0, 0) else (0, (lbaV c : Int), (cntV c : Int))) = V := ⟨_, rfl⟩
      have hgoal : (if (if badFrom u c 1 (m.length - 1) = true then (36 : Int) else if by' c 0 = 26 ∧ by' c 2 ≠ 63 then 36 else 0) ≠ 0 then ((if badFrom u c 1 (m.length - 1) = true then (36 : Int) else if by' c 0 = 26 ∧ by' c 2 ≠ 63 then 36 else 0), (0 : Int), (0 : Int)) else if c.length = 6 ∨ by' c 0 = 37 then (0, 0, 0) else if D.length < lbaV c + cntV c then (33, 0, 0) else if by' c 0 = 42 ∧ data.length ≠ 16 * cntV c then (36, 0, 0) else (0, (lbaV c : Int), (cntV c : Int))) = V := by
        rw [← hV]
        by_cases hb : badFrom u c 1 (m.length - 1) = true
        · simp [hb]
        · by_cases h26 : by' c 0 = 26 ∧ by' c 2 ≠ 63
          · simp [hb, h26]
          · simp [hb, h26]
      rw [hgoal, ← hV]
      have tail : (if by' c 0 = 26 ∧ by' c 2 ≠ 63 then ((36 : Int), (0 : Int), (0 : Int)) else if c.length = 6 ∨ by' c 0 = 37 then (0, 0, 0) else if D.length < lbaV c + cntV c then (33, 0, 0) else if by' c 0 = 42 ∧ data.length ≠ 16 * cntV c then (36, 0, 0) else (0, (lbaV c : Int), (cntV c : Int))) = (if badFrom u c m.length 0 = true then ((36 : Int), (0 : Int), (0 : Int)) else if by' c 0 = 26 ∧ by' c 2 ≠ 63 then (36, 0, 0) else if c.length = 6 ∨ by' c 0 = 37 then (0, 0, 0) else if D.length < lbaV c + cntV c then (33, 0, 0) else if by' c 0 = 42 ∧ data.length ≠ 16 * cntV c then (36, 0, 0) else (0, (lbaV c : Int), (cntV c : Int))) := by
        simp only [badFrom]; simp
      refine (loopF_eq (F25_l12 n D c data m) (fun k => some (if badFrom u c (max k 1) (m.length - max k 1) = true then ((36 : Int), (0 : Int), (0 : Int)) else if by' c 0 = 26 ∧ by' c 2 ≠ 63 then (36, 0, 0) else if c.length = 6 ∨ by' c 0 = 37 then (0, 0, 0) else if D.length < lbaV c + cntV c then (33, 0, 0) else if by' c 0 = 42 ∧ data.length ≠ 16 * cntV c then (36, 0, 0) else (0, (lbaV c : Int), (cntV c : Int)))) (fun k => k ≤ m.length) (fun k => m.length - k) ?_ n 0 (by omega) (by simp; omega)).trans rfl
      intro kk k hk ih
      simp only [F25_l12, Int.toNat_natCast]
      by_cases hkl : k < m.length
      · obtain ⟨hrun, hmk⟩ := mask_at hmo k hkl hm10
        have ih' := ih (k + 1) (by omega) (by omega)
        rw [decide_eq_true hkl, hrun, ih']
        simp only [cond_true]
        by_cases hk0 : k = 0
        · subst hk0
          rw [decide_eq_false (by omega)]; rfl
        · have e1 : max k 1 = k := by omega
          have e2 : max (k + 1) 1 = k + 1 := by omega
          have eb : badFrom u c k (m.length - k) = (((by' c k != 0) && !decide ((k : Int) ∈ u)) || badFrom u c (k + 1) (m.length - (k + 1))) := by
            rw [show m.length - k = (m.length - (k + 1)) + 1 by omega]; rfl
          rw [e1, e2, eb, decide_eq_true (show ((k : Nat) : Int) > 0 by omega), inb_true (by omega) (by omega), inb_true (by omega) (by omega)]
          simp only [cond_true]
          have hm48 : ((((m.getD k 0).toNat : Nat) : Int) == 48) = !decide ((k : Int) ∈ u) := by
            rw [← hmk (by omega)]
            by_cases h : by' m k = 48
            · rw [show (by' m k == 48) = true from beq_iff_eq.2 h]; exact beq_iff_eq.2 (by unfold by' at h; omega)
            · rw [show (by' m k == 48) = false from beq_eq_false_iff_ne.2 h]; exact beq_eq_false_iff_ne.2 (by unfold by' at h; omega)
          have hc0 : decide ((((c.getD k 0).toNat : Nat) : Int) > 0) = (by' c k != 0) := by
            by_cases h : by' c k = 0
            · rw [show (by' c k != 0) = false from bne_eq_false_iff_eq.2 h]; exact decide_eq_false (by unfold by' at h; omega)
            · rw [show (by' c k != 0) = true from bne_iff_ne.2 h]; exact decide_eq_true (by unfold by' at h; omega)
          rw [hm48, hc0]
          cases decide ((k : Int) ∈ u) <;> cases (by' c k != 0) <;> simp
      · obtain rfl : k = m.length := by omega
        have h1 : 1 ≤ m.length := by omega
        rw [decide_eq_false (by omega), show max m.length 1 = m.length by omega, Nat.sub_self, ← tail]
        simp only [cond_false]
        have fin : (bif (((c.length : Nat) : Int) == 6) then (some ((0 : Int), (0 : Int), (0 : Int))) else (bif ((((c.getD 0 0).toNat : Nat) : Int) == 37) then (some ((0 : Int), (0 : Int), (0 : Int))) else (bif inb 7 c.length then (bif inb 8 c.length then (loopF (F25_l14 n D c data) n ((0 : Int), (0 : Int))) else none) else none))) = some (if c.length = 6 ∨ by' c 0 = 37 then (0, 0, 0) else if D.length < lbaV c + cntV c then (33, 0, 0) else if by' c 0 = 42 ∧ data.length ≠ 16 * cntV c then (36, 0, 0) else (0, (lbaV c : Int), (cntV c : Int))) := by
          by_cases h6 : c.length = 6
          · rw [show (((c.length : Nat) : Int) == 6) = true from beq_iff_eq.2 (by omega), if_pos (Or.inl h6)]; rfl
          · rw [show (((c.length : Nat) : Int) == 6) = false from beq_eq_false_iff_ne.2 (by omega)]
            simp only [cond_false]
            by_cases h37 : by' c 0 = 37
            · rw [show ((((c.getD 0 0).toNat : Nat) : Int) == 37) = true from beq_iff_eq.2 (by unfold by' at h37; omega), if_pos (Or.inr h37)]; rfl
            · have h10 : c.length = 10 := by rw [hl]; rw [hl] at h6; rw [hm] at h6 ⊢; split at h6 <;> simp_all
              rw [show ((((c.getD 0 0).toNat : Nat) : Int) == 37) = false from beq_eq_false_iff_ne.2 (by unfold by' at h37; omega), if_neg (by omega), inb_true (by omega) (by omega), inb_true (by omega) (by omega)]
              simp only [cond_true, cond_false]
              exact tailS n hn D hD c data h10 hd
        have h1314 : F25_l13 n D c data = F25_l14 n D c data := rfl
        rw [h1314]
        by_cases h26 : by' c 0 = 26
        · have h6m : 2 < c.length := by rw [hl, hm]; split <;> omega
          rw [show ((((c.getD 0 0).toNat : Nat) : Int) == 26) = true from beq_iff_eq.2 (by unfold by' at h26; omega), inb_true (show (0 : Int) ≤ 2 by omega) (by omega)]
          simp only [cond_true]
          by_cases h63 : by' c 2 = 63
          · rw [show ((((c.getD 2 0).toNat : Nat) : Int) != 63) = false from bne_eq_false_iff_eq.2 (by unfold by' at h63; omega), if_neg (by omega)]
            exact fin
          · rw [show ((((c.getD 2 0).toNat : Nat) : Int) != 63) = true from bne_iff_ne.2 (by unfold by' at h63; omega), if_pos ⟨h26, h63⟩]; rfl
        · rw [show ((((c.getD 0 0).toNat : Nat) : Int) == 26) = false from beq_eq_false_iff_ne.2 (by unfold by' at h26; omega), if_neg (by omega)]
          exact fin
    · rw [show (((m.length : Nat) : Int) != ((c.length : Nat) : Int)) = true from bne_iff_ne.2 (by omega), if_pos hl]; rfl
end Go.Proofs.Ytbodjbpgdkkohaa
