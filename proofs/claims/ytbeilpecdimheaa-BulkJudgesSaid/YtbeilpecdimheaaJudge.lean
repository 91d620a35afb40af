/- Contracts: transfer, Judge (bulk), Move, Judged (plugref). -/
import Derived.Test.YtbeilpecdimheaaBetween
import Derived.Test.YtbeilpecdimheaaTwo
import Derived.Test.YtbeilpecdimheaaKit2
import Derived.Test.YtbeilpecdimheaaShelf
namespace Go.Proofs.Ytbeilpecdimheaa
open Go.RowKit
set_option linter.unusedVariables false
set_option maxRecDepth 100000

def mvOk (d n : Int) : Bool := decide ((d = 0 ∧ n = 0) ∨ ((d = 1 ∨ d = 2) ∧ 1 ≤ n ∧ n ≤ 4294967295))
theorem two32 (w : World) : Calls Try.prog 75 #[.int .i64 32] w fun e w' => e = .returned (.int .i64 4294967296) ∧ w = w' := two_any 32 (by decide) w
set_option maxHeartbeats 400000 in
theorem is32_any (n : Int) (w : World) : Calls Try.prog 92 #[.int .i64 n] w fun e w' => e = .returned (.bool (decide (0 ≤ n) && decide (n ≤ 4294967295))) ∧ w = w' := by
  go_enter Try.func92, Try.ntmps92
  go_wp2
  all_goals go_ret
  all_goals exact ⟨by simp [*] <;> omega, rfl⟩
set_option maxHeartbeats 400000 in
theorem transfer_any (d n : Int) (w : World) : Calls Try.prog 62 #[.agg #[.int .i64 d, .int .i64 n]] w fun e w' => e = .returned (.bool (mvOk d n)) ∧ Below w.heap.size w w' := by
  have HI := Lib.hid is32_any
  go_enter Try.func62, Try.ntmps62
  go_wp2_with (go_at_call 92; with_reducible refine (HI.out _ _).mono ?_; rintro r w2 ⟨rfl, rfl⟩)
  all_goals go_ret
  all_goals refine ⟨ret_b ?_, (Below.refl _ _).alloc (Nat.le_refl _) _⟩
  all_goals
    clear HI
    unfold mvOk
    rw [Bool.eq_iff_iff]
    simp only [bne_iff_ne, ne_eq, bne_eq_false_iff_eq, beq_iff_eq, beq_eq_false_iff_ne, decide_eq_true_eq, decide_eq_false_iff_not, Bool.and_eq_true, iff_true, true_iff, false_iff, iff_false, Bool.false_eq_true] at *
    omega
set_option maxHeartbeats 400000 in
theorem move_any (d n : Int) (w : World) : Calls Try.prog 63 #[.agg #[.int .i64 d, .int .i64 n]] w fun e w' => e = .returned (.bool (mvOk d n)) ∧ Below w.heap.size w w' := by
  have HT := Lib.hid two32
  have h1 := between_any d 1 2
  have h2 := between_any n 1 4294967295
  by_cases hz : d = 0 ∧ n = 0
  · obtain ⟨rfl, rfl⟩ := hz
    rw [show mvOk 0 0 = true from rfl]
    go_enter Try.func63, Try.ntmps63
    go_wp2_with fail
    go_quiet (fail)
    go_wp2_with fail
    go_ret
    exact ⟨rfl, ((Below.refl _ _).alloc (Nat.le_refl _) _).trans (below_drewN _ _ _)⟩
  · obtain hd | hd | hd | ⟨hd, hd1, hd2⟩ : (d = 0 ∧ n ≠ 0) ∨ d = 1 ∨ d = 2 ∨ (d ≠ 0 ∧ d ≠ 1 ∧ d ≠ 2) := by omega
    · obtain ⟨rfl, hn0⟩ := hd
      rw [show (decide ((1 : Int) ≤ 0) && decide ((0 : Int) ≤ 2)) = false from rfl] at h1
      rw [show mvOk 0 n = false by unfold mvOk; simp; omega]
      have H1 := Lib.hid h1
      have H2 := Lib.hid h2
      have hn1 : (n == 0) = false := by simpa using hn0
      clear h1 h2 hz
      go_enter Try.func63, Try.ntmps63
      go_wp2_with fail
      go_quiet (first | (go_at_call 66; first | (with_reducible exact quiet_same (H1.out _)) | (with_reducible exact quiet_same (H2.out _))) | (go_at_call 75; with_reducible exact quiet_same (HT.out _)))
      go_wp2_with fail
      go_ret
      exact ⟨rfl, ((Below.refl _ _).alloc (Nat.le_refl _) _).trans (below_drewN _ _ _)⟩
    · subst hd
      rw [show (decide ((1 : Int) ≤ 1) && decide ((1 : Int) ≤ 2)) = true from rfl] at h1
      by_cases hn : 1 ≤ n ∧ n ≤ 4294967295
      · rw [show (decide (1 ≤ n) && decide (n ≤ 4294967295)) = true by simp; omega] at h2
        rw [show mvOk 1 n = true by unfold mvOk; simp; omega]
        have H1 := Lib.hid h1
        have H2 := Lib.hid h2
        clear h1 h2 hz hn
        go_enter Try.func63, Try.ntmps63
        go_wp2_with fail
        go_quiet (first | (go_at_call 66; first | (with_reducible exact quiet_same (H1.out _)) | (with_reducible exact quiet_same (H2.out _))) | (go_at_call 75; with_reducible exact quiet_same (HT.out _)))
        go_wp2_with fail
        go_ret
        exact ⟨rfl, ((Below.refl _ _).alloc (Nat.le_refl _) _).trans (below_drewN _ _ _)⟩
      · rw [show (decide (1 ≤ n) && decide (n ≤ 4294967295)) = false by simp; omega] at h2
        rw [show mvOk 1 n = false by unfold mvOk; simp; omega]
        have H1 := Lib.hid h1
        have H2 := Lib.hid h2
        clear h1 h2 hz hn
        go_enter Try.func63, Try.ntmps63
        go_wp2_with fail
        go_quiet (first | (go_at_call 66; first | (with_reducible exact quiet_same (H1.out _)) | (with_reducible exact quiet_same (H2.out _))) | (go_at_call 75; with_reducible exact quiet_same (HT.out _)))
        go_wp2_with fail
        go_ret
        exact ⟨rfl, ((Below.refl _ _).alloc (Nat.le_refl _) _).trans (below_drewN _ _ _)⟩
    · subst hd
      rw [show (decide ((1 : Int) ≤ 2) && decide ((2 : Int) ≤ 2)) = true from rfl] at h1
      by_cases hn : 1 ≤ n ∧ n ≤ 4294967295
      · rw [show (decide (1 ≤ n) && decide (n ≤ 4294967295)) = true by simp; omega] at h2
        rw [show mvOk 2 n = true by unfold mvOk; simp; omega]
        have H1 := Lib.hid h1
        have H2 := Lib.hid h2
        clear h1 h2 hz hn
        go_enter Try.func63, Try.ntmps63
        go_wp2_with fail
        go_quiet (first | (go_at_call 66; first | (with_reducible exact quiet_same (H1.out _)) | (with_reducible exact quiet_same (H2.out _))) | (go_at_call 75; with_reducible exact quiet_same (HT.out _)))
        go_wp2_with fail
        go_ret
        exact ⟨rfl, ((Below.refl _ _).alloc (Nat.le_refl _) _).trans (below_drewN _ _ _)⟩
      · rw [show (decide (1 ≤ n) && decide (n ≤ 4294967295)) = false by simp; omega] at h2
        rw [show mvOk 2 n = false by unfold mvOk; simp; omega]
        have H1 := Lib.hid h1
        have H2 := Lib.hid h2
        clear h1 h2 hz hn
        go_enter Try.func63, Try.ntmps63
        go_wp2_with fail
        go_quiet (first | (go_at_call 66; first | (with_reducible exact quiet_same (H1.out _)) | (with_reducible exact quiet_same (H2.out _))) | (go_at_call 75; with_reducible exact quiet_same (HT.out _)))
        go_wp2_with fail
        go_ret
        exact ⟨rfl, ((Below.refl _ _).alloc (Nat.le_refl _) _).trans (below_drewN _ _ _)⟩
    · rw [show (decide (1 ≤ d) && decide (d ≤ 2)) = false by simp; omega] at h1
      rw [show mvOk d n = false by unfold mvOk; simp; omega]
      have H1 := Lib.hid h1
      have H2 := Lib.hid h2
      have hd3 : (d == 0) = false := by simpa using hd
      clear h1 h2 hz
      go_enter Try.func63, Try.ntmps63
      go_wp2_with fail
      go_quiet (first | (go_at_call 66; first | (with_reducible exact quiet_same (H1.out _)) | (with_reducible exact quiet_same (H2.out _))) | (go_at_call 75; with_reducible exact quiet_same (HT.out _)))
      go_wp2_with fail
      go_ret
      exact ⟨rfl, ((Below.refl _ _).alloc (Nat.le_refl _) _).trans (below_drewN _ _ _)⟩

/-- what the judges say: the case, what moves -/
def jC (hd dd : Int) (hn dn : Int) : Int :=
  if hd = 0 then 1 + dd else if dd = 0 then 4 + 5 * (hd - 1) else if hd = 1 ∧ dd = 2 then 8 else if hd = 2 ∧ dd = 1 then 10 else 5 + 6 * (hd - 1) + (if hn = dn then 1 else if hn < dn then 2 else 0)
def jBad (c : Int) : Bool := c == 2 || c == 3 || c == 7 || c == 8 || c == 10 || c == 13
def jV (hd hn dd dn : Int) : Value :=
  if jBad (jC hd dd hn dn) then .agg #[.int .i64 (jC hd dd hn dn), .int .i64 0, .int .i64 hn, .int .i64 2]
  else .agg #[.int .i64 (jC hd dd hn dn), .int .i64 (min hn dn), .int .i64 (hn - min hn dn), .int .i64 0]
end Go.Proofs.Ytbeilpecdimheaa
