/- Serve; in plain Lean. -/
import Derived.Test.YtbodjbpgdkkohaaSServe
namespace Go.Proofs.Ytbodjbpgdkkohaa
open Go Go.RowKit
set_option linter.unusedVariables false

theorem wrapV_good {t l : Int} {b : Bool} {u : Int} {c : Tx} (h : (wrapV t l b u c).2 = 0) : wgood t l u c := by
  unfold wrapV at h
  by_cases hg : wgood t l u c
  · exact hg
  · rw [if_neg hg] at h; simp at h
theorem readF (n : Nat) (s : Tx) (r : Int × Int × Bool × Int × Tx × Int) (h : F29 n s = some r) (he : r.2.2.2.2.2 = 0) :
    (0 ≤ r.2.1 ∧ r.2.1 ≤ 4294967295) ∧ 0 ≤ r.2.2.2.1 ∧ 1 ≤ r.2.2.2.2.1.length := by
  unfold F29 at h
  rcases bif_some h with ⟨c1, h⟩ | ⟨c1, h⟩
  · obtain rfl := Option.some.inj h; simp at he
  obtain ⟨y7, h7, h⟩ := bind_some' h
  obtain ⟨y8, h8, h⟩ := bind_some' h
  obtain ⟨t1, h⟩ := test_some h
  obtain ⟨t2, h⟩ := test_some h
  obtain ⟨t3, h⟩ := test_some h
  obtain ⟨t4, h⟩ := test_some h
  obtain ⟨y9, h9, h⟩ := bind_some' h
  rcases bif_some h with ⟨c2, h⟩ | ⟨c2, h⟩
  · obtain rfl := Option.some.inj h; simp at he
  rcases bif_some h with ⟨c3, h⟩ | ⟨c3, h⟩
  · obtain rfl := Option.some.inj h; simp at he
  obtain rfl := Option.some.inj h
  rw [wrapP] at h9
  obtain rfl := Option.some.inj h9
  have hg := wrapV_good (bne_eq_false_iff_eq.1 c2)
  exact ⟨hg.2.1, hg.2.2.1.1, hg.2.2.2.1⟩
theorem repB (b : UInt8) : ∀ k, Lib.repeatL [b] k = List.replicate k b
  | 0 => rfl
  | k + 1 => by rw [Lib.repeatL, repB b k]; rfl
theorem repN (n : Nat) (b : UInt8) (k : Nat) (hk : k ≤ 2000000) : F39 n [b] (k : Int) = some (List.replicate k b) := by
  unfold F39
  rw [decide_eq_true (show 0 ≤ (k : Int) ∧ ((([b] : Tx).length : Nat) : Int) * (k : Int) ≤ 140737488355328 ∧ (k : Int) ≤ 9223372036854775807 by simp only [List.length_cons, List.length_nil]; omega), Int.toNat_natCast, repB]; rfl
theorem out42 (D : List DTx) (sn : Int) (c d : DTx) (h : by' c 0 = 42) : (doV D sn c d).2.2.1 = [] := by
  unfold doV
  split
  · rfl
  split
  · rfl
  · simp only [outV, h]; rfl
theorem outErr (D : List DTx) (sn : Int) (c d : DTx) (h : (doV D sn c d).2.2.2 ≠ 0) : (doV D sn c d).2.2.1 = [] := by
  unfold doV at h ⊢
  split
  · rfl
  · rename_i h1
    rw [if_neg h1] at h
    split
    · rfl
    · rename_i h2
      rw [if_neg h2] at h
      exact absurd rfl h
def oV (D : List DTx) (sn : Int) (c : DTx) : Int × Int := if (doV D sn c []).2.2.1 = [] then (0, 0) else (1, (((doV D sn c []).2.2.1.length : Nat) : Int))
def iV (D : List DTx) (sn : Int) (c : DTx) : Int × Int :=
  if by' c 0 = 42 ∧ c.length = 10 ∧ (senV D c (List.replicate (16 * cntV c) 0)).1 = 0 ∧ 0 < cntV c then (2, ((16 * cntV c : Nat) : Int)) else oV D sn c
theorem sen_len (D : List DTx) (c d e : DTx) (h : d.length = e.length) : senV D c d = senV D c e := by unfold senV; rw [h]
theorem do_err (D : List DTx) (sn : Int) (c d : DTx) (hk : diskV D sn = 0) : (doV D sn c d).2.2.2 = 0 ↔ (senV D c d).1 = 0 := by
  by_cases h : (senV D c d).1 = 0
  · rw [doV_ok hk h]; simp [h]
  · rw [doV_bad hk h]; simp [h]
theorem oV_of (n : Nat) (hn : 100000 < n) (D : List DTx) (sn : Int) (c : DTx) (hD : D.length ≤ 64) :
    ((F8 n D sn c []).bind fun y_3 => (bif (y_3.2.2.2 == 0) then (bif (!(y_3.2.2.1 == ([] : List UInt8))) then (some ((1 : Int), ((y_3.2.2.1.length : Nat) : Int))) else (some ((0 : Int), (0 : Int)))) else (some ((0 : Int), (0 : Int))))) = some (oV D sn c) := by
  rw [doP n hn D sn c [] (by omega) (by simp)]
  simp only [Option.bind_some, oV]
  by_cases he : (doV D sn c []).2.2.2 = 0
  · rw [show ((doV D sn c []).2.2.2 == 0) = true from beq_iff_eq.2 he]
    by_cases ho : (doV D sn c []).2.2.1 = []
    · rw [if_pos ho, ho]; rfl
    · rw [if_neg ho, show ((doV D sn c []).2.2.1 == ([] : List UInt8)) = false from beq_eq_false_iff_ne.2 ho]; rfl
  · rw [show ((doV D sn c []).2.2.2 == 0) = false from beq_eq_false_iff_ne.2 he, if_pos (outErr D sn c [] he)]; rfl
theorem intP (n : Nat) (hn : 100000 < n) (D : List DTx) (sn : Int) (c : DTx) (hk : diskV D sn = 0) (hc : 1 ≤ c.length) : F31 n D sn c = some (iV D sn c) := by
  obtain ⟨hl, _, _⟩ := disk0 hk
  have ho := oV_of n hn D sn c hl.2
  have hj : F31_j2 n D sn c () = some (oV D sn c) := ho
  have hcn := cnt_lt c
  unfold F31 iV
  rw [cntBits]
  by_cases h10 : c.length = 10
  · rw [show (((c.length : Nat) : Int) == 10) = true from beq_iff_eq.2 (by omega), inb_true (show (0 : Int) ≤ 0 by omega) (by omega)]
    simp only [cond_true]
    by_cases h42 : by' c 0 = 42
    · rw [show ((((c.getD 0 0).toNat : Nat) : Int) == 42) = true from beq_iff_eq.2 (by unfold by' at h42; omega), inb_true (show (0 : Int) ≤ 7 by omega) (by omega), inb_true (show (0 : Int) ≤ 8 by omega) (by omega),
        show IntKind.wrap .i64 (((cntV c : Nat) : Int) * 16) = ((16 * cntV c : Nat) : Int) by rw [w64 (by omega) (by omega)]; omega, repN n 0 _ (by omega)]
      simp only [cond_true, Option.bind_some]
      rw [doP n hn D sn c _ (by omega) (by rw [List.length_replicate]; omega)]
      simp only [Option.bind_some]
      by_cases he : (senV D c (List.replicate (16 * cntV c) 0)).1 = 0
      · rw [show ((doV D sn c (List.replicate (16 * cntV c) 0)).2.2.2 == 0) = true from beq_iff_eq.2 ((do_err D sn c _ hk).2 he)]
        by_cases h0 : 0 < cntV c
        · rw [decide_eq_true (show ((16 * cntV c : Nat) : Int) > 0 by omega), if_pos ⟨h42, h10, he, h0⟩]; rfl
        · rw [decide_eq_false (show ¬ ((16 * cntV c : Nat) : Int) > 0 by omega), if_neg (fun h => h0 h.2.2.2)]; exact hj
      · rw [show ((doV D sn c (List.replicate (16 * cntV c) 0)).2.2.2 == 0) = false from beq_eq_false_iff_ne.2 (fun e => he ((do_err D sn c _ hk).1 e)), if_neg (fun h => he h.2.2.1)]; exact hj
    · rw [show ((((c.getD 0 0).toNat : Nat) : Int) == 42) = false from beq_eq_false_iff_ne.2 (by unfold by' at h42; omega), if_neg (fun h => h42 h.1)]; exact hj
  · rw [show (((c.length : Nat) : Int) == 10) = false from beq_eq_false_iff_ne.2 (by omega), if_neg (fun h => h10 h.2.1)]; exact ho
theorem oV_doc (n : Nat) (hn : 100000 < n) (D : List DTx) (sn : Int) (c : DTx) :
    ((F9 n D sn c []).bind fun y_5 => (bif (y_5.2.2.1 == ([] : List UInt8)) then (some ((0 : Int), (0 : Int))) else (some ((1 : Int), ((y_5.2.2.1.length : Nat) : Int))))) = some (oV D sn c) := by
  rw [doR n hn D sn c [] (by simp)]
  simp only [Option.bind_some, oV]
  by_cases ho : (doV D sn c []).2.2.1 = []
  · rw [if_pos ho, ho]; rfl
  · rw [if_neg ho, show ((doV D sn c []).2.2.1 == ([] : List UInt8)) = false from beq_eq_false_iff_ne.2 ho]; rfl
theorem sen_pos (D : List DTx) (c d : DTx) : (senV D c d).1 = 0 ∨ (senV D c d).1 > 0 := by
  unfold senV formV
  repeat' split
  all_goals simp
theorem meantR (n : Nat) (hn : 100000 < n) (D : List DTx) (sn : Int) (c : DTx) (hk : diskV D sn = 0) (hc : 1 ≤ c.length) : F35 n D sn c = some (iV D sn c) := by
  obtain ⟨hl, _, _⟩ := disk0 hk
  have ho := oV_doc n hn D sn c
  have hcn := cnt_lt c
  unfold F35 iV
  rw [inb_true (show (0 : Int) ≤ 0 by omega) (by omega)]
  simp only [cond_true]
  by_cases h42 : by' c 0 = 42
  · rw [show ((((c.getD 0 0).toNat : Nat) : Int) == 42) = true from beq_iff_eq.2 (by unfold by' at h42; omega)]
    simp only [cond_true]
    have h0o : oV D sn c = (0, 0) := if_pos (out42 D sn c [] h42)
    by_cases h10 : c.length = 10
    · have ecnt : IntKind.wrap .i64 (IntKind.wrap .i64 (256 * IntKind.wrap .i64 (((c.getD 7 0).toNat : Nat) : Int)) + IntKind.wrap .i64 (((c.getD 8 0).toNat : Nat) : Int)) = ((cntV c : Nat) : Int) := by
        have := cntW c
        rwa [Int.mul_comm] at this
      rw [show (((c.length : Nat) : Int) == 10) = true from beq_iff_eq.2 (by omega), inb_true (show (0 : Int) ≤ 7 by omega) (by omega), inb_true (show (0 : Int) ≤ 8 by omega) (by omega), ecnt,
        show IntKind.wrap .i64 (16 * ((cntV c : Nat) : Int)) = ((16 * cntV c : Nat) : Int) by rw [w64 (by omega) (by omega)]; omega, repN n 120 _ (by omega)]
      simp only [cond_true, Option.bind_some]
      rw [senP n (by omega) D hl.2 sn c _ (by rw [List.length_replicate]; omega), sen_len D c (List.replicate (16 * cntV c) 120) (List.replicate (16 * cntV c) 0) (by simp)]
      simp only [Option.bind_some]
      rcases sen_pos D c (List.replicate (16 * cntV c) 0) with he | he
      · rw [decide_eq_false (by omega)]
        by_cases h0 : 0 < cntV c
        · rw [if_pos ⟨h42, h10, he, h0⟩, show (((16 * cntV c : Nat) : Int) == 0) = false from beq_eq_false_iff_ne.2 (by omega)]; rfl
        · rw [if_neg (fun h => h0 h.2.2.2), h0o, show (((16 * cntV c : Nat) : Int) == 0) = true from beq_iff_eq.2 (by omega)]; rfl
      · rw [decide_eq_true he, if_neg (fun h => by have := h.2.2.1; omega), h0o]; rfl
    · rw [show (((c.length : Nat) : Int) == 10) = false from beq_eq_false_iff_ne.2 (by omega), if_neg (fun h => h10 h.2.1)]; exact ho
  · rw [show ((((c.getD 0 0).toNat : Nat) : Int) == 42) = false from beq_eq_false_iff_ne.2 (by unfold by' at h42; omega), if_neg (fun h => h42 h.1)]; exact ho
end Go.Proofs.Ytbodjbpgdkkohaa
