/- Commands of a disk: the law. -/
import Derived.Test.YtbodjbpgdkkohaaSScsi3
namespace Go.Proofs.Ytbodjbpgdkkohaa
open Go Go.RowKit
set_option linter.unusedVariables false

theorem doV_ok {D : List DTx} {sn : Int} {c data : DTx} (h1 : diskV D sn = 0) (h2 : (senV D c data).1 = 0) : doV D sn c data = (if by' c 0 = 42 then newD D (lbaV c) (cntV c) data else D, 0, outV D sn c, 0) := by
  unfold doV; rw [if_neg (fun h => h h1), if_neg (fun h => h h2)]
theorem doV_bad {D : List DTx} {sn : Int} {c data : DTx} (h1 : diskV D sn = 0) (h2 : (senV D c data).1 ≠ 0) : doV D sn c data = (D, (senV D c data).1, [], 14) := by
  unfold doV; rw [if_neg (fun h => h h1), if_pos h2]
theorem sen6 {D : List DTx} {c data : DTx} (hf : formV c = 0) (h : c.length = 6 ∨ by' c 0 = 37) : senV D c data = (0, 0, 0) := by
  unfold senV; rw [if_neg (fun e => e hf), if_pos h]
theorem sen10 {D : List DTx} {c data : DTx} (hf : formV c = 0) (h : ¬ (c.length = 6 ∨ by' c 0 = 37)) : senV D c data = (if D.length < lbaV c + cntV c then (33, 0, 0) else if by' c 0 = 42 ∧ data.length ≠ 16 * cntV c then (36, 0, 0) else (0, (lbaV c : Int), (cntV c : Int))) := by
  unfold senV; rw [if_neg (fun e => e hf), if_neg h]
theorem joinP (n : Nat) (D : List DTx) (hl : D.length ≤ 64) (h16 : ∀ b ∈ D, b.length = 16) : F26 n D [] = some D.flatten := by
  unfold F26
  rw [join_flat, decide_eq_true (show D.flatten.length ≤ 140737488355328 ∧ D.length ≤ 140737488355328 by rw [flat_len D h16]; omega)]; rfl
theorem repP (n : Nat) : F39 n [32] 12 = some [32, 32, 32, 32, 32, 32, 32, 32, 32, 32, 32, 32] := by kernel_rfl
theorem opB {c : DTx} {k : Nat} (h : by' c 0 = k) (v : Nat) : ((((c.getD 0 0).toNat : Nat) : Int) == (v : Int)) = decide (k = v) := by
  unfold by' at h; rw [h]
  by_cases e : k = v
  · rw [decide_eq_true e]; exact beq_iff_eq.2 (by omega)
  · rw [decide_eq_false e]; exact beq_eq_false_iff_ne.2 (by omega)
theorem doP (n : Nat) (hn : 100000 < n) (D : List DTx) (sn : Int) (c data : DTx) (hD : D.length ≤ 8796093022208) (hd : data.length ≤ 140737488355328) : F8 n D sn c data = some (doV D sn c data) := by
  unfold F8 F21
  rw [decide_eq_true (show ([] : List DTx).length + D.length ≤ 8796093022208 by simp only [List.length_nil]; omega)]
  simp only [cond_true, List.nil_append, Option.bind_some]
  rw [diskP n D sn (by omega)]
  simp only [Option.bind_some]
  by_cases hk : diskV D sn = 0
  case neg => unfold doV; rw [if_pos hk, show (diskV D sn != 0) = true from bne_iff_ne.2 hk]; rfl
  rw [show (diskV D sn != 0) = false from bne_eq_false_iff_eq.2 hk, formP n (by omega)]
  simp only [cond_false, Option.bind_some]
  obtain ⟨hl, h16, hs⟩ := disk0 hk
  by_cases hf : formV c = 0
  case neg =>
    have hsv : senV D c data = (formV c, 0, 0) := if_pos hf
    rw [decide_eq_true hf, doV_bad hk (by rw [hsv]; exact hf), hsv]; rfl
  rw [decide_eq_false (fun e => e hf)]
  obtain ⟨hc0, hops, hcl⟩ := form0 hf
  have hc : 0 < c.length := List.length_pos_iff.2 hc0
  have hb4 : (c.getD 4 0).toNat = by' c 4 := rfl
  have hb4l := by_lt c 4
  rw [inb_true (show (0 : Int) ≤ 0 by omega) (by omega)]
  simp only [cond_true, cond_false, lbaBits, cntBits]
  have ops : ∀ k : Nat, by' c 0 = k → ∀ v : Nat, ((((c.getD 0 0).toNat : Nat) : Int) == (v : Int)) = decide (k = v) := fun k h v => opB h v
  have b0 : ∀ k : Nat, by' c 0 = k → ((((c.getD 0 0).toNat : Nat) : Int) == 0) = decide (k = 0) := fun k h => opB h 0
  have b3 : ∀ k : Nat, by' c 0 = k → ((((c.getD 0 0).toNat : Nat) : Int) == 3) = decide (k = 3) := fun k h => opB h 3
  have b18 : ∀ k : Nat, by' c 0 = k → ((((c.getD 0 0).toNat : Nat) : Int) == 18) = decide (k = 18) := fun k h => opB h 18
  have b26 : ∀ k : Nat, by' c 0 = k → ((((c.getD 0 0).toNat : Nat) : Int) == 26) = decide (k = 26) := fun k h => opB h 26
  have b37 : ∀ k : Nat, by' c 0 = k → ((((c.getD 0 0).toNat : Nat) : Int) == 37) = decide (k = 37) := fun k h => opB h 37
  have b40 : ∀ k : Nat, by' c 0 = k → ((((c.getD 0 0).toNat : Nat) : Int) == 40) = decide (k = 40) := fun k h => opB h 40
  have b42 : ∀ k : Nat, by' c 0 = k → ((((c.getD 0 0).toNat : Nat) : Int) == 42) = decide (k = 42) := fun k h => opB h 42
  by_cases hlow : by' c 0 < 40
  · rcases hops with h | h | h | h | h | h | h | h
    · rw [b0 _ h, doV_ok hk (by rw [sen6 hf (Or.inl (by rw [hcl, h]; rfl))])]
      simp only [h, outV]; rfl
    · have h6 : c.length = 6 := by rw [hcl, h]; rfl
      rw [b0 _ h, b3 _ h, doV_ok hk (by rw [sen6 hf (Or.inl h6)])]
      rw [show decide (3 = 0) = false from rfl, show decide (3 = 3) = true from rfl]
      simp only [cond_true, cond_false, F8_j27, hb4, h, outV]
      rcases hs with rfl | rfl | rfl | rfl
      · rw [show ((0 : Int) == 0) = true from rfl, inb_true (by omega) (by omega), firstP n _ (by show (18 : Nat) ≤ 1000; omega) _ hb4l]; rfl
      · rw [show ((32 : Int) == 0) = false from rfl, inb_true (by omega) (by omega)]; simp only [cond_false, cond_true]; rw [firstP n _ (by show (18 : Nat) ≤ 1000; omega) _ hb4l]; rfl
      · rw [show ((33 : Int) == 0) = false from rfl, inb_true (by omega) (by omega)]; simp only [cond_false, cond_true]; rw [firstP n _ (by show (18 : Nat) ≤ 1000; omega) _ hb4l]; rfl
      · rw [show ((36 : Int) == 0) = false from rfl, inb_true (by omega) (by omega)]; simp only [cond_false, cond_true]; rw [firstP n _ (by show (18 : Nat) ≤ 1000; omega) _ hb4l]; rfl
    · have h6 : c.length = 6 := by rw [hcl, h]; rfl
      rw [b0 _ h, b3 _ h, b18 _ h, doV_ok hk (by rw [sen6 hf (Or.inl h6)]), repP]
      rw [show decide (18 = 0) = false from rfl, show decide (18 = 3) = false from rfl, show decide (18 = 18) = true from rfl]
      simp only [cond_true, cond_false, hb4, h, outV, Option.bind_some]
      rw [inb_true (by omega) (by omega), firstP n _ (by show (36 : Nat) ≤ 1000; omega) _ hb4l]; rfl
    · have h6 : c.length = 6 := by rw [hcl, h]; rfl
      rw [b0 _ h, b3 _ h, b18 _ h, b26 _ h, doV_ok hk (by rw [sen6 hf (Or.inl h6)])]
      rw [show decide (26 = 0) = false from rfl, show decide (26 = 3) = false from rfl, show decide (26 = 18) = false from rfl, show decide (26 = 26) = true from rfl]
      simp only [cond_true, cond_false, hb4, h, outV]
      rw [inb_true (by omega) (by omega), firstP n _ (by show (4 : Nat) ≤ 1000; omega) _ hb4l]; rfl
    · rw [b0 _ h, b3 _ h, b18 _ h, b26 _ h, b37 _ h, doV_ok hk (by rw [sen6 hf (Or.inr h)])]
      rw [show decide (37 = 0) = false from rfl, show decide (37 = 3) = false from rfl, show decide (37 = 18) = false from rfl, show decide (37 = 26) = false from rfl, show decide (37 = 37) = true from rfl]
      simp only [cond_true, cond_false, h, outV]
      rw [show IntKind.wrap .i64 (((D.length : Nat) : Int) - 1) = ((D.length - 1 : Nat) : Int) by rw [w64 (by omega) (by omega)]; omega, longP n _ (by omega), show F55 n 16 = some [0, 0, 0, 16] from longP n 16 (by omega)]
      rfl
    all_goals omega
  · have h10 : c.length = 10 := by rw [hcl, if_neg (by omega)]
    have hlb := lba_lt c
    have hcn := cnt_lt c
    have hsen := sen10 (D := D) (data := data) hf (by omega)
    have hno : ∀ v : Nat, v < 40 → ((((c.getD 0 0).toNat : Nat) : Int) == (v : Int)) = false := fun v hv => by
      rw [opB rfl v]; exact decide_eq_false (by omega)
    have n0 := hno 0 (by omega)
    have n3 := hno 3 (by omega)
    have n18 := hno 18 (by omega)
    have n26 := hno 26 (by omega)
    have n37 := hno 37 (by omega)
    simp only [Int.ofNat_eq_natCast, Int.cast_ofNat_Int] at n0 n3 n18 n26 n37
    rw [show ((((c.getD 0 0).toNat : Nat) : Int) == 0) = false from n0, show ((((c.getD 0 0).toNat : Nat) : Int) == 3) = false from n3, show ((((c.getD 0 0).toNat : Nat) : Int) == 18) = false from n18, show ((((c.getD 0 0).toNat : Nat) : Int) == 26) = false from n26, show ((((c.getD 0 0).toNat : Nat) : Int) == 37) = false from n37]
    simp only [cond_false]
    rw [inb_true (show (0 : Int) ≤ 2 by omega) (by omega), inb_true (show (0 : Int) ≤ 3 by omega) (by omega), inb_true (show (0 : Int) ≤ 4 by omega) (by omega), inb_true (show (0 : Int) ≤ 5 by omega) (by omega), inb_true (show (0 : Int) ≤ 7 by omega) (by omega), inb_true (show (0 : Int) ≤ 8 by omega) (by omega)]
    simp only [cond_true]
    rw [show IntKind.wrap .i64 (((lbaV c : Nat) : Int) + ((cntV c : Nat) : Int)) = ((lbaV c + cntV c : Nat) : Int) by rw [w64 (by omega) (by omega)]; omega]
    by_cases hbig : D.length < lbaV c + cntV c
    · rw [if_pos hbig] at hsen
      rw [decide_eq_true (show ((lbaV c + cntV c : Nat) : Int) > ((D.length : Nat) : Int) by omega), doV_bad hk (by rw [hsen]; decide), hsen]; rfl
    rw [if_neg hbig] at hsen
    rw [decide_eq_false (show ¬ ((lbaV c + cntV c : Nat) : Int) > ((D.length : Nat) : Int) by omega)]
    simp only [cond_false]
    rcases hops with h | h | h | h | h | h | h | h
    all_goals first | omega | skip
    · rw [if_neg (by omega)] at hsen
      rw [b40 _ h, doV_ok hk (by rw [hsen])]
      rw [show decide (40 = 40) = true from rfl, show subB D.length (some ((lbaV c : Nat) : Int)) (some ((lbaV c + cntV c : Nat) : Int)) = true by simp [subB]; omega]
      simp only [cond_true, Int.toNat_natCast, h, outV]
      rw [joinP n _ (by rw [List.length_drop, List.length_take]; omega) (fun b hb => h16 b (List.mem_of_mem_take (List.mem_of_mem_drop hb)))]
      rfl
    · rw [b40 _ h, b42 _ h]
      rw [show decide (42 = 40) = false from rfl, show decide (42 = 42) = true from rfl, show IntKind.wrap .i64 (((cntV c : Nat) : Int) * 16) = ((16 * cntV c : Nat) : Int) by rw [w64 (by omega) (by omega)]; omega]
      simp only [cond_true, cond_false]
      by_cases hdl : data.length = 16 * cntV c
      · rw [if_neg (by omega)] at hsen
        rw [show (((data.length : Nat) : Int) != ((16 * cntV c : Nat) : Int)) = false from bne_eq_false_iff_eq.2 (by omega), doV_ok hk (by rw [hsen]), writeL n (by omega) D c data (by omega) hl.2 hdl, if_pos h]
        simp only [cond_false, h, outV]
        rfl
      · rw [if_pos ⟨h, hdl⟩] at hsen
        rw [show (((data.length : Nat) : Int) != ((16 * cntV c : Nat) : Int)) = true from bne_iff_ne.2 (by omega), doV_bad hk (by rw [hsen]; decide), hsen]; rfl
    · rw [if_neg (by omega)] at hsen
      rw [b40 _ h, b42 _ h, doV_ok hk (by rw [hsen])]
      simp only [h, outV]
      rfl
theorem doR (n : Nat) (hn : 100000 < n) (D : List DTx) (sn : Int) (c data : DTx) (hd : data.length ≤ 140737488355328) : F9 n D sn c data = some (doV D sn c data) := by
  unfold F9
  rw [diskR n D sn (by omega)]
  simp only [Option.bind_some]
  by_cases hk : diskV D sn = 0
  case neg => unfold doV; rw [if_pos hk, show (diskV D sn != 0) = true from bne_iff_ne.2 hk]; rfl
  obtain ⟨hl, h16, hs⟩ := disk0 hk
  rw [show (diskV D sn != 0) = false from bne_eq_false_iff_eq.2 hk, senP n (by omega) D hl.2 sn c data (by omega)]
  simp only [cond_false, Option.bind_some]
  by_cases hf : formV c = 0
  case neg =>
    have hsv : senV D c data = (formV c, 0, 0) := if_pos hf
    have hpos : formV c > 0 := by
      have : formV c = 0 ∨ formV c = 32 ∨ formV c = 36 := by
        unfold formV; repeat' split
        all_goals simp
      omega
    rw [doV_bad hk (by rw [hsv]; exact hf), hsv]
    simp only
    rw [decide_eq_true hpos]; rfl
  obtain ⟨hc0, hops, hcl⟩ := form0 hf
  have hc : 0 < c.length := List.length_pos_iff.2 hc0
  have hb4l := by_lt c 4
  rw [joinP n D hl.2 h16, inb_true (show (0 : Int) ≤ 0 by omega) (by omega)]
  simp only [cond_true, Option.bind_some]
  have b3 : ∀ k : Nat, by' c 0 = k → ((((c.getD 0 0).toNat : Nat) : Int) == 3) = decide (k = 3) := fun k h => opB h 3
  have b18 : ∀ k : Nat, by' c 0 = k → ((((c.getD 0 0).toNat : Nat) : Int) == 18) = decide (k = 18) := fun k h => opB h 18
  have b26 : ∀ k : Nat, by' c 0 = k → ((((c.getD 0 0).toNat : Nat) : Int) == 26) = decide (k = 26) := fun k h => opB h 26
  have b37 : ∀ k : Nat, by' c 0 = k → ((((c.getD 0 0).toNat : Nat) : Int) == 37) = decide (k = 37) := fun k h => opB h 37
  have b40 : ∀ k : Nat, by' c 0 = k → ((((c.getD 0 0).toNat : Nat) : Int) == 40) = decide (k = 40) := fun k h => opB h 40
  have b42 : ∀ k : Nat, by' c 0 = k → ((((c.getD 0 0).toNat : Nat) : Int) == 42) = decide (k = 42) := fun k h => opB h 42
  have ho : ∀ o : DTx, o.length ≤ 2000 → F9_j5 n c (D.flatten, o) = some (D, 0, if c.length = 6 then o.take (by' c 4) else o, 0) := fun o h => j5P n (by omega) c D h16 hl.2 o h
  by_cases hlow : by' c 0 < 40
  · rcases hops with h | h | h | h | h | h | h | h
    · have h6 : c.length = 6 := by rw [hcl, h]; rfl
      rw [sen6 hf (Or.inl h6), b3 _ h, b18 _ h, b26 _ h, b37 _ h, b40 _ h, b42 _ h, doV_ok hk (by rw [sen6 hf (Or.inl h6)]), ho [] (by simp)]
      simp only [h, outV, List.take_nil, ite_self]; rfl
    · have h6 : c.length = 6 := by rw [hcl, h]; rfl
      rw [sen6 hf (Or.inl h6), b3 _ h, doV_ok hk (by rw [sen6 hf (Or.inl h6)])]
      rw [show decide (3 = 3) = true from rfl]
      simp only [cond_true, cond_false, h, outV]
      rcases hs with rfl | rfl | rfl | rfl
      · rw [show F27 n (if 5 < (0 : Int) then 5 else 0) 1 = some [0] from high1 n (by omega) 0 (by omega), show F27 n 0 1 = some [0] from high1 n (by omega) 0 (by omega)]
        simp only [Option.bind_some]
        rw [ho _ (by show (18 : Nat) ≤ 2000; omega), if_pos h6]; rfl
      · rw [show F27 n (if 5 < (32 : Int) then 5 else 32) 1 = some [5] from high1 n (by omega) 5 (by omega), show F27 n 32 1 = some [32] from high1 n (by omega) 32 (by omega)]
        simp only [Option.bind_some]
        rw [ho _ (by show (18 : Nat) ≤ 2000; omega), if_pos h6]; rfl
      · rw [show F27 n (if 5 < (33 : Int) then 5 else 33) 1 = some [5] from high1 n (by omega) 5 (by omega), show F27 n 33 1 = some [33] from high1 n (by omega) 33 (by omega)]
        simp only [Option.bind_some]
        rw [ho _ (by show (18 : Nat) ≤ 2000; omega), if_pos h6]; rfl
      · rw [show F27 n (if 5 < (36 : Int) then 5 else 36) 1 = some [5] from high1 n (by omega) 5 (by omega), show F27 n 36 1 = some [36] from high1 n (by omega) 36 (by omega)]
        simp only [Option.bind_some]
        rw [ho _ (by show (18 : Nat) ≤ 2000; omega), if_pos h6]; rfl
    · have h6 : c.length = 6 := by rw [hcl, h]; rfl
      rw [sen6 hf (Or.inl h6), b3 _ h, b18 _ h, doV_ok hk (by rw [sen6 hf (Or.inl h6)]), ho _ (by show (36 : Nat) ≤ 2000; omega), if_pos h6]
      simp only [h, outV]; rfl
    · have h6 : c.length = 6 := by rw [hcl, h]; rfl
      rw [sen6 hf (Or.inl h6), b3 _ h, b18 _ h, b26 _ h, doV_ok hk (by rw [sen6 hf (Or.inl h6)]), ho [3, 0, 0, 0] (by show (4 : Nat) ≤ 2000; omega), if_pos h6]
      simp only [h, outV]; rfl
    · have h10 : c.length = 10 := by rw [hcl, h]; rfl
      rw [sen6 hf (Or.inr h), b3 _ h, b18 _ h, b26 _ h, b37 _ h, doV_ok hk (by rw [sen6 hf (Or.inr h)])]
      simp only [show decide ((0 : Int) > 0) = false from rfl, show decide (37 = 3) = false from rfl, show decide (37 = 18) = false from rfl, show decide (37 = 26) = false from rfl, show decide (37 = 37) = true from rfl, cond_true, cond_false]
      rw [show IntKind.wrap .i64 (((D.length : Nat) : Int) - 1) = ((D.length - 1 : Nat) : Int) by rw [w64 (by omega) (by omega)]; omega, high4 n (by omega) _ (by omega), show F27 n 16 4 = some [0, 0, 0, 16] from high4 n (by omega) 16 (by omega)]
      simp only [Option.bind_some]
      rw [ho _ (by show (8 : Nat) ≤ 2000; omega), if_neg (by omega)]
      simp only [h, outV]; rfl
    all_goals omega
  · have h10 : c.length = 10 := by rw [hcl, if_neg (by omega)]
    have hlb := lba_lt c
    have hcn := cnt_lt c
    have hsen := sen10 (D := D) (data := data) hf (by omega)
    by_cases hbig : D.length < lbaV c + cntV c
    · rw [if_pos hbig] at hsen
      rw [doV_bad hk (by rw [hsen]; decide), hsen]; rfl
    rw [if_neg hbig] at hsen
    have hfl := flat_len D h16
    have ew : IntKind.wrap .i64 (((lbaV c : Nat) : Int) + ((cntV c : Nat) : Int)) = ((lbaV c + cntV c : Nat) : Int) := by rw [w64 (by omega) (by omega)]; omega
    have ew2 : IntKind.wrap .i64 (16 * ((lbaV c : Nat) : Int)) = ((16 * lbaV c : Nat) : Int) := by rw [w64 (by omega) (by omega)]; omega
    have ew3 : IntKind.wrap .i64 (16 * ((lbaV c + cntV c : Nat) : Int)) = ((16 * (lbaV c + cntV c) : Nat) : Int) := by rw [w64 (by omega) (by omega)]; omega
    rcases hops with h | h | h | h | h | h | h | h
    all_goals first | omega | skip
    · rw [if_neg (by omega)] at hsen
      rw [b3 _ h, b18 _ h, b26 _ h, b37 _ h, b40 _ h, doV_ok hk (by rw [hsen]), hsen]
      simp only [show decide ((0 : Int) > 0) = false from rfl, show decide (40 = 3) = false from rfl, show decide (40 = 18) = false from rfl, show decide (40 = 26) = false from rfl, show decide (40 = 37) = false from rfl, show decide (40 = 40) = true from rfl, cond_true, cond_false]
      rw [ew, ew2, ew3, show subB D.flatten.length (some ((16 * lbaV c : Nat) : Int)) (some ((16 * (lbaV c + cntV c) : Nat) : Int)) = true by rw [hfl]; simp [subB]; omega]
      simp only [Int.toNat_natCast]
      have e1 : (D.flatten.take (16 * (lbaV c + cntV c))).drop (16 * lbaV c) = ((D.take (lbaV c + cntV c)).drop (lbaV c)).flatten := by
        rw [flat_take D h16 _ (by omega), flat_drop _ (fun b hb => h16 b (List.mem_of_mem_take hb)) _ (by rw [List.length_take]; omega)]
      have e2 : (((D.take (lbaV c + cntV c)).drop (lbaV c)).flatten).length ≤ 2000 := by
        rw [flat_len _ (fun b hb => h16 b (List.mem_of_mem_take (List.mem_of_mem_drop hb))), List.length_drop, List.length_take]; omega
      rw [e1, ho _ e2, if_neg (by omega)]
      simp only [h, outV]; rfl
    · by_cases hdl : data.length = 16 * cntV c
      · rw [if_neg (by omega)] at hsen
        rw [b3 _ h, b18 _ h, b26 _ h, b37 _ h, b40 _ h, b42 _ h, doV_ok hk (by rw [hsen]), hsen]
        simp only [show decide ((0 : Int) > 0) = false from rfl, show decide (42 = 3) = false from rfl, show decide (42 = 18) = false from rfl, show decide (42 = 26) = false from rfl, show decide (42 = 37) = false from rfl, show decide (42 = 40) = false from rfl, show decide (42 = 42) = true from rfl, cond_true, cond_false]
        rw [ew, ew2, ew3, show subB D.flatten.length none (some ((16 * lbaV c : Nat) : Int)) = true by rw [hfl]; simp [subB]; omega, show subB D.flatten.length (some ((16 * (lbaV c + cntV c) : Nat) : Int)) none = true by rw [hfl]; simp [subB]; omega]
        simp only [Int.toNat_natCast]
        rw [decide_eq_true (show (D.flatten.take (16 * lbaV c)).length + data.length ≤ 9223372036854775807 by rw [List.length_take, hfl]; omega), decide_eq_true (show (D.flatten.take (16 * lbaV c) ++ data).length + (D.flatten.drop (16 * (lbaV c + cntV c))).length ≤ 9223372036854775807 by rw [List.length_append, List.length_take, List.length_drop, hfl]; omega)]
        rw [← newD_flat D h16 _ _ _ (by omega) hdl, j5P n (by omega) c _ (newD_16 D h16 _ _ _ hdl) (by rw [newD_len D _ _ _ (by omega)]; exact hl.2) [] (by simp), if_neg (by omega), if_pos h]
        simp only [h, outV]; rfl
      · rw [if_pos ⟨h, hdl⟩] at hsen
        rw [doV_bad hk (by rw [hsen]; decide), hsen]; rfl
    · rw [if_neg (by omega)] at hsen
      rw [b3 _ h, b18 _ h, b26 _ h, b37 _ h, b40 _ h, b42 _ h, doV_ok hk (by rw [hsen]), hsen]
      simp only [show decide ((0 : Int) > 0) = false from rfl, show decide (53 = 3) = false from rfl, show decide (53 = 18) = false from rfl, show decide (53 = 26) = false from rfl, show decide (53 = 37) = false from rfl, show decide (53 = 40) = false from rfl, show decide (53 = 42) = false from rfl, cond_true, cond_false]
      rw [ho [] (by simp), if_neg (by omega)]
      simp only [h, outV]; rfl
theorem eqBL (n : Nat) (D : List DTx) (hD : D.length ≤ 8796093022208) (hn : D.length + 4 < n) : F28 n D D = some true := by
  unfold F28
  rw [show (((D.length : Nat) : Int) != ((D.length : Nat) : Int)) = false from bne_eq_false_iff_eq.2 rfl]
  simp only [cond_false]
  refine loopF_eq (F28_l2 n D D) (fun _ => some true) (fun x => ∃ k : Nat, x = (k : Int) ∧ k ≤ D.length) (fun x => D.length - x.toNat) ?_ n 0 ⟨0, rfl, by omega⟩ (by simp; omega)
  rintro kk x ⟨k, rfl, hk⟩ ih
  simp only [F28_l2, Int.toNat_natCast]
  by_cases hkl : k < D.length
  · rw [decide_eq_true (show (k : Int) < (D.length : Int) by omega), inb_true (by omega) (by omega), w64 (n := (k : Int) + 1) (by omega) (by omega), ih ((k : Int) + 1) ⟨k + 1, by omega, by omega⟩ (by simp only [Int.toNat_natCast]; omega), show ((D.getD k []) == (D.getD k [])) = true from beq_iff_eq.2 rfl]; rfl
  · rw [decide_eq_false (by omega)]; rfl
theorem doV_len (D : List DTx) (sn : Int) (c data : DTx) : (doV D sn c data).1.length = D.length := by
  unfold doV
  split
  · rfl
  split
  · rfl
  rename_i hk hs
  simp only
  split
  · rename_i h42
    apply newD_len
    have hs' : (senV D c data).1 = 0 := by simpa using hs
    unfold senV at hs'
    split at hs'
    · rename_i h; exact absurd hs' h
    split at hs'
    · rename_i hf hh
      have hf0 : formV c = 0 := by simpa using hf
      obtain ⟨_, _, hcl⟩ := form0 hf0
      rw [h42] at hcl hh
      simp at hcl
      omega
    split at hs'
    · simp at hs'
    · omega
  · rfl
end Go.Proofs.Ytbodjbpgdkkohaa
