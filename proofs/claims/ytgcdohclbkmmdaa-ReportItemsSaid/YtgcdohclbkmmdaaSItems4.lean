/- The law ReportItems, in plain Lean (fourth part: the document's text of items; the law). -/
import Derived.Test.YtgcdohclbkmmdaaSItems3
namespace Go.Proofs.Ytgcdohclbkmmdaa
open Go Go.RowKit
set_option linter.unusedVariables false

theorem betwR (n : Nat) (v lo hi : Int) : F16 n v lo hi = some (decide (lo ≤ v ∧ v ≤ hi)) := by
  unfold F16
  by_cases h : lo ≤ v
  · rw [decide_eq_true h]
    simp only [cond_true, Option.some.injEq]
    rw [Bool.eq_iff_iff, decide_eq_true_iff, decide_eq_true_iff]
    exact ⟨fun e => ⟨h, e⟩, fun e => e.2⟩
  · rw [decide_eq_false h, decide_eq_false (show ¬ (lo ≤ v ∧ v ≤ hi) from fun hh => h hh.1)]; rfl
theorem four (n : Nat) (v : Int) (h0 : -2147483648 ≤ v) (h1 : v < 2147483648) : F96 n ((IntKind.wrap .i64 (v + 4294967296)).tmod 4294967296) = some (strOf [valB v 0, valB v 1, valB v 2, valB v 3]) := by
  rw [w64 (by omega) (by omega), Int.tmod_eq_emod_of_nonneg (by omega)]
  unfold F96 F73
  have hu : 0 ≤ (v + 4294967296) % 4294967296 := by omega
  have b0 : valB v 0 = v % 256 := by unfold valB; simp
  have b1 : valB v 1 = v / 256 % 256 := by unfold valB; rfl
  have b2 : valB v 2 = v / 65536 % 256 := by unfold valB; rfl
  have b3 : valB v 3 = v / 16777216 % 256 := by unfold valB; rfl
  rw [b0, b1, b2, b3]
  have hv : (v + 4294967296) % 4294967296 = if v < 0 then v + 4294967296 else v := by
    by_cases q : v < 0
    · rw [if_pos q]; omega
    · rw [if_neg q]; omega
  rw [hv]
  clear hv hu b0 b1 b2 b3
  by_cases q : v < 0
  · rw [if_pos q]
    obtain ⟨u, hu⟩ : ∃ u, u = v + 4294967296 := ⟨_, rfl⟩
    rw [← hu, Int.tmod_eq_emod_of_nonneg (show 0 ≤ u by omega), Int.tdiv_eq_ediv_of_nonneg (show 0 ≤ u by omega), w64 (n := u / 65536) (by omega) (by omega), Int.tmod_eq_emod_of_nonneg (show 0 ≤ u % 65536 by omega), Int.tdiv_eq_ediv_of_nonneg (show 0 ≤ u % 65536 by omega), Int.tmod_eq_emod_of_nonneg (show 0 ≤ u / 65536 by omega), Int.tdiv_eq_ediv_of_nonneg (show 0 ≤ u / 65536 by omega), w64 (n := u % 65536 / 256) (by omega) (by omega), w64 (n := u / 65536 / 256) (by omega) (by omega), Int.tmod_eq_emod_of_nonneg (show 0 ≤ u % 65536 / 256 by omega), Int.tmod_eq_emod_of_nonneg (show 0 ≤ u / 65536 / 256 by omega), u8w, u8w, u8w, u8w]
    simp only [Option.bind_some, ← strOf_app]
    rw [decide_eq_true (by simp [strOf])]
    simp only [cond_true, Option.some.injEq, List.cons_append, List.nil_append]
    congr 1
    have c0 : u % 65536 % 256 % 256 = v % 256 := by omega
    have c1 : u % 65536 / 256 % 256 % 256 = v / 256 % 256 := by omega
    have c2 : u / 65536 % 256 % 256 = v / 65536 % 256 := by omega
    have c3 : u / 65536 / 256 % 256 % 256 = v / 16777216 % 256 := by omega
    rw [c0, c1, c2, c3]
  · rw [if_neg q]
    rw [Int.tmod_eq_emod_of_nonneg (show 0 ≤ v by omega), Int.tdiv_eq_ediv_of_nonneg (show 0 ≤ v by omega), w64 (n := v / 65536) (by omega) (by omega), Int.tmod_eq_emod_of_nonneg (show 0 ≤ v % 65536 by omega), Int.tdiv_eq_ediv_of_nonneg (show 0 ≤ v % 65536 by omega), Int.tmod_eq_emod_of_nonneg (show 0 ≤ v / 65536 by omega), Int.tdiv_eq_ediv_of_nonneg (show 0 ≤ v / 65536 by omega), w64 (n := v % 65536 / 256) (by omega) (by omega), w64 (n := v / 65536 / 256) (by omega) (by omega), Int.tmod_eq_emod_of_nonneg (show 0 ≤ v % 65536 / 256 by omega), Int.tmod_eq_emod_of_nonneg (show 0 ≤ v / 65536 / 256 by omega), u8w, u8w, u8w, u8w]
    simp only [Option.bind_some, ← strOf_app]
    rw [decide_eq_true (by simp [strOf])]
    simp only [cond_true, Option.some.injEq, List.cons_append, List.nil_append]
    congr 1
    have c0 : v % 65536 % 256 % 256 = v % 256 := by omega
    have c1 : v % 65536 / 256 % 256 % 256 = v / 256 % 256 := by omega
    have c2 : v / 65536 % 256 % 256 = v / 65536 % 256 := by omega
    have c3 : v / 65536 / 256 % 256 % 256 = v / 16777216 % 256 := by omega
    rw [c0, c1, c2, c3]
/-- the sizes that tell a value -/
def fb (v : Int) (i : Nat) : UInt8 := UInt8.ofNat (valB v i).toNat
theorem fb_nat (v : Int) (i : Nat) : ((fb v i).toNat : Int) = valB v i := by
  have h : 0 ≤ valB v i ∧ valB v i < 256 := by unfold valB; omega
  unfold fb
  have : (UInt8.ofNat (valB v i).toNat).toNat = (valB v i).toNat % 256 := by simp
  rw [this]; omega
theorem tell1 (v : Int) (h0 : -2147483648 ≤ v) (h1 : v < 2147483648) : (sgn [fb v 0] == v) = decide (-128 ≤ v ∧ v < 128) := by
  have f0 := fb_nat v 0
  have b0 : valB v 0 = v % 256 := by unfold valB; simp
  have e1 : leV [fb v 0] = (fb v 0).toNat := by simp [leV]
  rw [sgn_of [fb v 0] (fb v 0) 256 rfl (by simp), e1, Bool.eq_iff_iff, beq_iff_eq, decide_eq_true_iff]
  generalize (fb v 0).toNat = a at *
  by_cases q : 128 ≤ a
  · rw [if_pos q]; omega
  · rw [if_neg q]; omega
theorem tell2 (v : Int) (h0 : -2147483648 ≤ v) (h1 : v < 2147483648) : (sgn [fb v 0, fb v 1] == v) = decide (-32768 ≤ v ∧ v < 32768) := by
  have f0 := fb_nat v 0
  have f1 := fb_nat v 1
  have b0 : valB v 0 = v % 256 := by unfold valB; simp
  have b1 : valB v 1 = v / 256 % 256 := by unfold valB; rfl
  have e1 : leV [fb v 0, fb v 1] = (fb v 0).toNat + 256 * (fb v 1).toNat := by simp [leV]
  rw [sgn_of [fb v 0, fb v 1] (fb v 1) 65536 rfl (by simp), e1, Bool.eq_iff_iff, beq_iff_eq, decide_eq_true_iff]
  generalize (fb v 0).toNat = a at *
  generalize (fb v 1).toNat = b at *
  by_cases q : 128 ≤ b
  · rw [if_pos q]; omega
  · rw [if_neg q]; omega
theorem tell4 (v : Int) (h0 : -2147483648 ≤ v) (h1 : v < 2147483648) : sgn [fb v 0, fb v 1, fb v 2, fb v 3] = v := by
  have f0 := fb_nat v 0
  have f1 := fb_nat v 1
  have f2 := fb_nat v 2
  have f3 := fb_nat v 3
  have b0 : valB v 0 = v % 256 := by unfold valB; simp
  have b1 : valB v 1 = v / 256 % 256 := by unfold valB; rfl
  have b2 : valB v 2 = v / 65536 % 256 := by unfold valB; rfl
  have b3 : valB v 3 = v / 16777216 % 256 := by unfold valB; rfl
  have e1 : leV [fb v 0, fb v 1, fb v 2, fb v 3] = (fb v 0).toNat + 256 * (fb v 1).toNat + 65536 * (fb v 2).toNat + 16777216 * (fb v 3).toNat := by simp [leV]; omega
  rw [sgn_of [fb v 0, fb v 1, fb v 2, fb v 3] (fb v 3) 4294967296 rfl (by simp), e1]
  generalize (fb v 0).toNat = a at *
  generalize (fb v 1).toNat = b at *
  generalize (fb v 2).toNat = c at *
  generalize (fb v 3).toNat = d at *
  by_cases q : 128 ≤ d
  · rw [if_pos q]; omega
  · rw [if_neg q]; omega
end Go.Proofs.Ytgcdohclbkmmdaa
