/- The walk of the law BulkJudges. -/
import Derived.Test.YtbeilpecdimheaaJudge2
import Derived.Test.YtbeilpecdimheaaJudge3
import Derived.Test.YtbeilpecdimheaaJudge5
namespace Go.Proofs.Ytbeilpecdimheaa
open Go.RowKit
set_option linter.unusedVariables false
set_option maxRecDepth 100000

theorem mv_cases {d n : Int} (h : mvOk d n = true) : (d = 0 ∧ n = 0) ∨ (d = 1 ∧ 1 ≤ n ∧ n ≤ 4294967295) ∨ (d = 2 ∧ 1 ≤ n ∧ n ≤ 4294967295) := by
  unfold mvOk at h
  have := of_decide_eq_true h
  omega
theorem judge_both (hd hn dd dn : Int) (h1 : mvOk hd hn = true) (h2 : mvOk dd dn = true) : ∃ a b c d : Int,
    (∀ w, Calls Try.prog 17 #[.agg #[.int .i64 hd, .int .i64 hn], .agg #[.int .i64 dd, .int .i64 dn]] w fun r w' => r = .returned (.tuple #[.agg #[.int .i64 a, .int .i64 b, .int .i64 c, .int .i64 d], .int .i64 0]) ∧ Below w.heap.size w w') ∧
    (∀ w, Calls Try.prog 18 #[.agg #[.int .i64 hd, .int .i64 hn], .agg #[.int .i64 dd, .int .i64 dn]] w fun r w' => r = .returned (.tuple #[.agg #[.int .i64 a, .int .i64 b, .int .i64 c, .int .i64 d], .int .i64 0]) ∧ Below w.heap.size w w') := by
  obtain ⟨rfl, rfl⟩ | ⟨rfl, a1, a2⟩ | ⟨rfl, a1, a2⟩ := mv_cases h1
  · obtain ⟨rfl, rfl⟩ | ⟨rfl, b1, b2⟩ | ⟨rfl, b1, b2⟩ := mv_cases h2
    · exact ⟨_, _, _, _, jp_00, jr_00⟩
    · exact ⟨_, _, _, _, jp_01lt dn b1 b2, jr_01lt dn b1 b2⟩
    · exact ⟨_, _, _, _, jp_02lt dn b1 b2, jr_02lt dn b1 b2⟩
  · obtain ⟨rfl, rfl⟩ | ⟨rfl, b1, b2⟩ | ⟨rfl, b1, b2⟩ := mv_cases h2
    · exact ⟨_, _, _, _, jp_10gt hn a1 a2, jr_10gt hn a1 a2⟩
    · obtain hlt | rfl | hlt : hn < dn ∨ hn = dn ∨ dn < hn := by omega
      · exact ⟨_, _, _, _, jp_11lt hn a1 a2 dn b1 b2 hlt, jr_11lt hn a1 a2 dn b1 b2 hlt⟩
      · exact ⟨_, _, _, _, jp_11eq hn a1 a2, jr_11eq hn a1 a2⟩
      · exact ⟨_, _, _, _, jp_11gt hn a1 a2 dn b1 b2 hlt, jr_11gt hn a1 a2 dn b1 b2 hlt⟩
    · obtain hlt | rfl | hlt : hn < dn ∨ hn = dn ∨ dn < hn := by omega
      · exact ⟨_, _, _, _, jp_12lt hn a1 a2 dn b1 b2 hlt, jr_12lt hn a1 a2 dn b1 b2 hlt⟩
      · exact ⟨_, _, _, _, jp_12eq hn a1 a2, jr_12eq hn a1 a2⟩
      · exact ⟨_, _, _, _, jp_12gt hn a1 a2 dn b1 b2 hlt, jr_12gt hn a1 a2 dn b1 b2 hlt⟩
  · obtain ⟨rfl, rfl⟩ | ⟨rfl, b1, b2⟩ | ⟨rfl, b1, b2⟩ := mv_cases h2
    · exact ⟨_, _, _, _, jp_20gt hn a1 a2, jr_20gt hn a1 a2⟩
    · obtain hlt | rfl | hlt : hn < dn ∨ hn = dn ∨ dn < hn := by omega
      · exact ⟨_, _, _, _, jp_21lt hn a1 a2 dn b1 b2 hlt, jr_21lt hn a1 a2 dn b1 b2 hlt⟩
      · exact ⟨_, _, _, _, jp_21eq hn a1 a2, jr_21eq hn a1 a2⟩
      · exact ⟨_, _, _, _, jp_21gt hn a1 a2 dn b1 b2 hlt, jr_21gt hn a1 a2 dn b1 b2 hlt⟩
    · obtain hlt | rfl | hlt : hn < dn ∨ hn = dn ∨ dn < hn := by omega
      · exact ⟨_, _, _, _, jp_22lt hn a1 a2 dn b1 b2 hlt, jr_22lt hn a1 a2 dn b1 b2 hlt⟩
      · exact ⟨_, _, _, _, jp_22eq hn a1 a2, jr_22eq hn a1 a2⟩
      · exact ⟨_, _, _, _, jp_22gt hn a1 a2 dn b1 b2 hlt, jr_22gt hn a1 a2 dn b1 b2 hlt⟩
set_option maxHeartbeats 1000000 in
theorem judge_bad (hd hn dd dn : Int) (h : (mvOk hd hn && mvOk dd dn) = false) (w : World) :
    Calls Try.prog 17 #[.agg #[.int .i64 hd, .int .i64 hn], .agg #[.int .i64 dd, .int .i64 dn]] w fun r w' => r = .returned (.tuple #[.agg #[.int .i64 0, .int .i64 0, .int .i64 0, .int .i64 0], .int .i64 1]) ∧ Below w.heap.size w w' := by
  have H1 := Lib.hid (transfer_any hd hn)
  have H2 := Lib.hid (transfer_any dd dn)
  generalize mvOk hd hn = x at *
  generalize mvOk dd dn = y at *
  obtain rfl | ⟨rfl, rfl⟩ : x = false ∨ (x = true ∧ y = false) := by revert h; cases x <;> cases y <;> decide
  · clear h
    go_enter Try.func17, Try.ntmps17
    go_wp2_with fail
    refine (H1.out _).mono ?_
    rintro r_w1 w1 ⟨rfl, hb_w1⟩
    have B_w1 : Below w.heap.size w w1 := by first | exact hb_w1 | exact ((Below.refl _ _).alloc (Nat.le_refl _) _).trans (hb_w1.mono (by simp)) | exact (((Below.refl _ _).alloc (Nat.le_refl _) _).alloc (by simp) _).trans (hb_w1.mono (by simp; omega)) | exact Below.trans (by go_grown) (hb_w1.mono (by simp; omega))
    have z_w1_0 : w.heap.size + 1 + 1 < w1.heap.size := by have := hb_w1.size; first | omega | (simp at this; omega)
    have c_w1_0_0 : w1.cell? ⟨w.heap.size + 1 + 1, 0, none⟩ = some (.int .i64 0) := (hb_w1.cell (by first | assumption | (simp; done) | (simp; omega))).trans (by first | assumption | (simp; done) | (simp [go_sem]; done) | (simp [*]; done) | ((repeat rw [World.cell?_alloc_lt _ _ _ (by first | (simp; done) | (simp; omega) | omega)]); first | assumption | (simp; done)))
    have f_w1_0_0 : w1.frozen? ⟨w.heap.size + 1 + 1, 0, none⟩ = false := (hb_w1.frozen (by first | assumption | (simp; done) | (simp; omega))).trans (by first | assumption | (simp; done) | (simp [go_sem]; done) | (simp [*]; done))
    have c_w1_0_1 : w1.cell? ⟨w.heap.size + 1 + 1, 1, none⟩ = some (.int .i64 0) := (hb_w1.cell (by first | assumption | (simp; done) | (simp; omega))).trans (by first | assumption | (simp; done) | (simp [go_sem]; done) | (simp [*]; done) | ((repeat rw [World.cell?_alloc_lt _ _ _ (by first | (simp; done) | (simp; omega) | omega)]); first | assumption | (simp; done)))
    have f_w1_0_1 : w1.frozen? ⟨w.heap.size + 1 + 1, 1, none⟩ = false := (hb_w1.frozen (by first | assumption | (simp; done) | (simp; omega))).trans (by first | assumption | (simp; done) | (simp [go_sem]; done) | (simp [*]; done))
    have c_w1_0_2 : w1.cell? ⟨w.heap.size + 1 + 1, 2, none⟩ = some (.int .i64 0) := (hb_w1.cell (by first | assumption | (simp; done) | (simp; omega))).trans (by first | assumption | (simp; done) | (simp [go_sem]; done) | (simp [*]; done) | ((repeat rw [World.cell?_alloc_lt _ _ _ (by first | (simp; done) | (simp; omega) | omega)]); first | assumption | (simp; done)))
    have f_w1_0_2 : w1.frozen? ⟨w.heap.size + 1 + 1, 2, none⟩ = false := (hb_w1.frozen (by first | assumption | (simp; done) | (simp; omega))).trans (by first | assumption | (simp; done) | (simp [go_sem]; done) | (simp [*]; done))
    have c_w1_0_3 : w1.cell? ⟨w.heap.size + 1 + 1, 3, none⟩ = some (.int .i64 0) := (hb_w1.cell (by first | assumption | (simp; done) | (simp; omega))).trans (by first | assumption | (simp; done) | (simp [go_sem]; done) | (simp [*]; done) | ((repeat rw [World.cell?_alloc_lt _ _ _ (by first | (simp; done) | (simp; omega) | omega)]); first | assumption | (simp; done)))
    have f_w1_0_3 : w1.frozen? ⟨w.heap.size + 1 + 1, 3, none⟩ = false := (hb_w1.frozen (by first | assumption | (simp; done) | (simp; omega))).trans (by first | assumption | (simp; done) | (simp [go_sem]; done) | (simp [*]; done))
    clear hb_w1
    go_wp2_with fail
    refine bodyPost_ret (v := .tuple #[.agg #[.int .i64 0, .int .i64 0, .int .i64 0, .int .i64 0], .int .i64 1]) (by simp [results, Try.results17, go_sem, c_w1_0_0, c_w1_0_1, c_w1_0_2, c_w1_0_3, z_w1_0]) rfl ⟨rfl, ?_⟩
    have hz := B_w1.size
    go_grown
  · clear h
    go_enter Try.func17, Try.ntmps17
    go_wp2_with fail
    refine (H1.out _).mono ?_
    rintro r_w1 w1 ⟨rfl, hb_w1⟩
    have B_w1 : Below w.heap.size w w1 := by first | exact hb_w1 | exact ((Below.refl _ _).alloc (Nat.le_refl _) _).trans (hb_w1.mono (by simp)) | exact (((Below.refl _ _).alloc (Nat.le_refl _) _).alloc (by simp) _).trans (hb_w1.mono (by simp; omega)) | exact Below.trans (by go_grown) (hb_w1.mono (by simp; omega))
    have z_w1_0 : w.heap.size < w1.heap.size := by have := hb_w1.size; first | omega | (simp at this; omega)
    have c_w1_0_0 : w1.cell? ⟨w.heap.size, 0, none⟩ = some (.int .i64 hd) := (hb_w1.cell (by first | assumption | (simp; done) | (simp; omega))).trans (by first | assumption | (simp; done) | (simp [go_sem]; done) | (simp [*]; done) | ((repeat rw [World.cell?_alloc_lt _ _ _ (by first | (simp; done) | (simp; omega) | omega)]); first | assumption | (simp; done)))
    have c_w1_0_1 : w1.cell? ⟨w.heap.size, 1, none⟩ = some (.int .i64 hn) := (hb_w1.cell (by first | assumption | (simp; done) | (simp; omega))).trans (by first | assumption | (simp; done) | (simp [go_sem]; done) | (simp [*]; done) | ((repeat rw [World.cell?_alloc_lt _ _ _ (by first | (simp; done) | (simp; omega) | omega)]); first | assumption | (simp; done)))
    have z_w1_1 : w.heap.size + 1 < w1.heap.size := by have := hb_w1.size; first | omega | (simp at this; omega)
    have c_w1_1_0 : w1.cell? ⟨w.heap.size + 1, 0, none⟩ = some (.int .i64 dd) := (hb_w1.cell (by first | assumption | (simp; done) | (simp; omega))).trans (by first | assumption | (simp; done) | (simp [go_sem]; done) | (simp [*]; done) | ((repeat rw [World.cell?_alloc_lt _ _ _ (by first | (simp; done) | (simp; omega) | omega)]); first | assumption | (simp; done)))
    have c_w1_1_1 : w1.cell? ⟨w.heap.size + 1, 1, none⟩ = some (.int .i64 dn) := (hb_w1.cell (by first | assumption | (simp; done) | (simp; omega))).trans (by first | assumption | (simp; done) | (simp [go_sem]; done) | (simp [*]; done) | ((repeat rw [World.cell?_alloc_lt _ _ _ (by first | (simp; done) | (simp; omega) | omega)]); first | assumption | (simp; done)))
    have z_w1_2 : w.heap.size + 1 + 1 < w1.heap.size := by have := hb_w1.size; first | omega | (simp at this; omega)
    have c_w1_2_0 : w1.cell? ⟨w.heap.size + 1 + 1, 0, none⟩ = some (.int .i64 0) := (hb_w1.cell (by first | assumption | (simp; done) | (simp; omega))).trans (by first | assumption | (simp; done) | (simp [go_sem]; done) | (simp [*]; done) | ((repeat rw [World.cell?_alloc_lt _ _ _ (by first | (simp; done) | (simp; omega) | omega)]); first | assumption | (simp; done)))
    have f_w1_2_0 : w1.frozen? ⟨w.heap.size + 1 + 1, 0, none⟩ = false := (hb_w1.frozen (by first | assumption | (simp; done) | (simp; omega))).trans (by first | assumption | (simp; done) | (simp [go_sem]; done) | (simp [*]; done))
    have c_w1_2_1 : w1.cell? ⟨w.heap.size + 1 + 1, 1, none⟩ = some (.int .i64 0) := (hb_w1.cell (by first | assumption | (simp; done) | (simp; omega))).trans (by first | assumption | (simp; done) | (simp [go_sem]; done) | (simp [*]; done) | ((repeat rw [World.cell?_alloc_lt _ _ _ (by first | (simp; done) | (simp; omega) | omega)]); first | assumption | (simp; done)))
    have f_w1_2_1 : w1.frozen? ⟨w.heap.size + 1 + 1, 1, none⟩ = false := (hb_w1.frozen (by first | assumption | (simp; done) | (simp; omega))).trans (by first | assumption | (simp; done) | (simp [go_sem]; done) | (simp [*]; done))
    have c_w1_2_2 : w1.cell? ⟨w.heap.size + 1 + 1, 2, none⟩ = some (.int .i64 0) := (hb_w1.cell (by first | assumption | (simp; done) | (simp; omega))).trans (by first | assumption | (simp; done) | (simp [go_sem]; done) | (simp [*]; done) | ((repeat rw [World.cell?_alloc_lt _ _ _ (by first | (simp; done) | (simp; omega) | omega)]); first | assumption | (simp; done)))
    have f_w1_2_2 : w1.frozen? ⟨w.heap.size + 1 + 1, 2, none⟩ = false := (hb_w1.frozen (by first | assumption | (simp; done) | (simp; omega))).trans (by first | assumption | (simp; done) | (simp [go_sem]; done) | (simp [*]; done))
    have c_w1_2_3 : w1.cell? ⟨w.heap.size + 1 + 1, 3, none⟩ = some (.int .i64 0) := (hb_w1.cell (by first | assumption | (simp; done) | (simp; omega))).trans (by first | assumption | (simp; done) | (simp [go_sem]; done) | (simp [*]; done) | ((repeat rw [World.cell?_alloc_lt _ _ _ (by first | (simp; done) | (simp; omega) | omega)]); first | assumption | (simp; done)))
    have f_w1_2_3 : w1.frozen? ⟨w.heap.size + 1 + 1, 3, none⟩ = false := (hb_w1.frozen (by first | assumption | (simp; done) | (simp; omega))).trans (by first | assumption | (simp; done) | (simp [go_sem]; done) | (simp [*]; done))
    clear hb_w1
    go_wp2_with fail
    refine (H2.out _).mono ?_
    rintro r_w2 w2 ⟨rfl, hb_w2⟩
    have B_w2 : Below w.heap.size w w2 := by first | exact B_w1.trans (hb_w2.mono B_w1.size) | exact (B_w1.alloc B_w1.size _).trans (hb_w2.mono (by have := B_w1.size; simp; omega)) | exact ((B_w1.alloc B_w1.size _).alloc (by have := B_w1.size; simp; omega) _).trans (hb_w2.mono (by have := B_w1.size; simp; omega)) | (have := B_w1.size; exact Below.trans (by go_grown) (hb_w2.mono (by simp; omega)))
    have z_w2_0 : w.heap.size < w2.heap.size := by have := hb_w2.size; first | omega | (simp at this; omega)
    have c_w2_0_0 : w2.cell? ⟨w.heap.size, 0, none⟩ = some (.int .i64 hd) := (hb_w2.cell (by first | assumption | (simp; done) | (simp; omega))).trans (by first | assumption | (simp; done) | (simp [go_sem]; done) | (simp [*]; done) | ((repeat rw [World.cell?_alloc_lt _ _ _ (by first | (simp; done) | (simp; omega) | omega)]); first | assumption | (simp; done)))
    have c_w2_0_1 : w2.cell? ⟨w.heap.size, 1, none⟩ = some (.int .i64 hn) := (hb_w2.cell (by first | assumption | (simp; done) | (simp; omega))).trans (by first | assumption | (simp; done) | (simp [go_sem]; done) | (simp [*]; done) | ((repeat rw [World.cell?_alloc_lt _ _ _ (by first | (simp; done) | (simp; omega) | omega)]); first | assumption | (simp; done)))
    have z_w2_1 : w.heap.size + 1 < w2.heap.size := by have := hb_w2.size; first | omega | (simp at this; omega)
    have c_w2_1_0 : w2.cell? ⟨w.heap.size + 1, 0, none⟩ = some (.int .i64 dd) := (hb_w2.cell (by first | assumption | (simp; done) | (simp; omega))).trans (by first | assumption | (simp; done) | (simp [go_sem]; done) | (simp [*]; done) | ((repeat rw [World.cell?_alloc_lt _ _ _ (by first | (simp; done) | (simp; omega) | omega)]); first | assumption | (simp; done)))
    have c_w2_1_1 : w2.cell? ⟨w.heap.size + 1, 1, none⟩ = some (.int .i64 dn) := (hb_w2.cell (by first | assumption | (simp; done) | (simp; omega))).trans (by first | assumption | (simp; done) | (simp [go_sem]; done) | (simp [*]; done) | ((repeat rw [World.cell?_alloc_lt _ _ _ (by first | (simp; done) | (simp; omega) | omega)]); first | assumption | (simp; done)))
    have z_w2_2 : w.heap.size + 1 + 1 < w2.heap.size := by have := hb_w2.size; first | omega | (simp at this; omega)
    have c_w2_2_0 : w2.cell? ⟨w.heap.size + 1 + 1, 0, none⟩ = some (.int .i64 0) := (hb_w2.cell (by first | assumption | (simp; done) | (simp; omega))).trans (by first | assumption | (simp; done) | (simp [go_sem]; done) | (simp [*]; done) | ((repeat rw [World.cell?_alloc_lt _ _ _ (by first | (simp; done) | (simp; omega) | omega)]); first | assumption | (simp; done)))
    have f_w2_2_0 : w2.frozen? ⟨w.heap.size + 1 + 1, 0, none⟩ = false := (hb_w2.frozen (by first | assumption | (simp; done) | (simp; omega))).trans (by first | assumption | (simp; done) | (simp [go_sem]; done) | (simp [*]; done))
    have c_w2_2_1 : w2.cell? ⟨w.heap.size + 1 + 1, 1, none⟩ = some (.int .i64 0) := (hb_w2.cell (by first | assumption | (simp; done) | (simp; omega))).trans (by first | assumption | (simp; done) | (simp [go_sem]; done) | (simp [*]; done) | ((repeat rw [World.cell?_alloc_lt _ _ _ (by first | (simp; done) | (simp; omega) | omega)]); first | assumption | (simp; done)))
    have f_w2_2_1 : w2.frozen? ⟨w.heap.size + 1 + 1, 1, none⟩ = false := (hb_w2.frozen (by first | assumption | (simp; done) | (simp; omega))).trans (by first | assumption | (simp; done) | (simp [go_sem]; done) | (simp [*]; done))
    have c_w2_2_2 : w2.cell? ⟨w.heap.size + 1 + 1, 2, none⟩ = some (.int .i64 0) := (hb_w2.cell (by first | assumption | (simp; done) | (simp; omega))).trans (by first | assumption | (simp; done) | (simp [go_sem]; done) | (simp [*]; done) | ((repeat rw [World.cell?_alloc_lt _ _ _ (by first | (simp; done) | (simp; omega) | omega)]); first | assumption | (simp; done)))
    have f_w2_2_2 : w2.frozen? ⟨w.heap.size + 1 + 1, 2, none⟩ = false := (hb_w2.frozen (by first | assumption | (simp; done) | (simp; omega))).trans (by first | assumption | (simp; done) | (simp [go_sem]; done) | (simp [*]; done))
    have c_w2_2_3 : w2.cell? ⟨w.heap.size + 1 + 1, 3, none⟩ = some (.int .i64 0) := (hb_w2.cell (by first | assumption | (simp; done) | (simp; omega))).trans (by first | assumption | (simp; done) | (simp [go_sem]; done) | (simp [*]; done) | ((repeat rw [World.cell?_alloc_lt _ _ _ (by first | (simp; done) | (simp; omega) | omega)]); first | assumption | (simp; done)))
    have f_w2_2_3 : w2.frozen? ⟨w.heap.size + 1 + 1, 3, none⟩ = false := (hb_w2.frozen (by first | assumption | (simp; done) | (simp; omega))).trans (by first | assumption | (simp; done) | (simp [go_sem]; done) | (simp [*]; done))
    clear c_w1_0_0 c_w1_0_1 c_w1_1_0 c_w1_1_1 c_w1_2_0 f_w1_2_0 c_w1_2_1 f_w1_2_1 c_w1_2_2 f_w1_2_2 c_w1_2_3 f_w1_2_3 z_w1_0 z_w1_1 z_w1_2 B_w1 hb_w2
    go_wp2_with fail
    refine bodyPost_ret (v := .tuple #[.agg #[.int .i64 0, .int .i64 0, .int .i64 0, .int .i64 0], .int .i64 1]) (by simp [results, Try.results17, go_sem, c_w2_2_0, c_w2_2_1, c_w2_2_2, c_w2_2_3, z_w2_2]) rfl ⟨rfl, ?_⟩
    have hz := B_w2.size
    go_grown
set_option maxHeartbeats 1000000 in
theorem judgeR_bad (hd hn dd dn : Int) (h : (mvOk hd hn && mvOk dd dn) = false) (w : World) :
    Calls Try.prog 18 #[.agg #[.int .i64 hd, .int .i64 hn], .agg #[.int .i64 dd, .int .i64 dn]] w fun r w' => r = .returned (.tuple #[.agg #[.int .i64 0, .int .i64 0, .int .i64 0, .int .i64 0], .int .i64 1]) ∧ Below w.heap.size w w' := by
  have H1 := Lib.hid (move_any hd hn)
  have H2 := Lib.hid (move_any dd dn)
  generalize mvOk hd hn = x at *
  generalize mvOk dd dn = y at *
  obtain rfl | ⟨rfl, rfl⟩ : x = false ∨ (x = true ∧ y = false) := by revert h; cases x <;> cases y <;> decide
  · clear h
    go_enter Try.func18, Try.ntmps18
    go_wp2_with fail
    refine (H1.out _).mono ?_
    rintro r_w1 w1 ⟨rfl, hb_w1⟩
    have B_w1 : Below w.heap.size w w1 := by first | exact hb_w1 | exact ((Below.refl _ _).alloc (Nat.le_refl _) _).trans (hb_w1.mono (by simp)) | exact (((Below.refl _ _).alloc (Nat.le_refl _) _).alloc (by simp) _).trans (hb_w1.mono (by simp; omega)) | exact Below.trans (by go_grown) (hb_w1.mono (by simp; omega))
    have z_w1_0 : w.heap.size + 1 + 1 < w1.heap.size := by have := hb_w1.size; first | omega | (simp at this; omega)
    have c_w1_0_0 : w1.cell? ⟨w.heap.size + 1 + 1, 0, none⟩ = some (.int .i64 0) := (hb_w1.cell (by first | assumption | (simp; done) | (simp; omega))).trans (by first | assumption | (simp; done) | (simp [go_sem]; done) | (simp [*]; done) | ((repeat rw [World.cell?_alloc_lt _ _ _ (by first | (simp; done) | (simp; omega) | omega)]); first | assumption | (simp; done)))
    have f_w1_0_0 : w1.frozen? ⟨w.heap.size + 1 + 1, 0, none⟩ = false := (hb_w1.frozen (by first | assumption | (simp; done) | (simp; omega))).trans (by first | assumption | (simp; done) | (simp [go_sem]; done) | (simp [*]; done))
    have c_w1_0_1 : w1.cell? ⟨w.heap.size + 1 + 1, 1, none⟩ = some (.int .i64 0) := (hb_w1.cell (by first | assumption | (simp; done) | (simp; omega))).trans (by first | assumption | (simp; done) | (simp [go_sem]; done) | (simp [*]; done) | ((repeat rw [World.cell?_alloc_lt _ _ _ (by first | (simp; done) | (simp; omega) | omega)]); first | assumption | (simp; done)))
    have f_w1_0_1 : w1.frozen? ⟨w.heap.size + 1 + 1, 1, none⟩ = false := (hb_w1.frozen (by first | assumption | (simp; done) | (simp; omega))).trans (by first | assumption | (simp; done) | (simp [go_sem]; done) | (simp [*]; done))
    have c_w1_0_2 : w1.cell? ⟨w.heap.size + 1 + 1, 2, none⟩ = some (.int .i64 0) := (hb_w1.cell (by first | assumption | (simp; done) | (simp; omega))).trans (by first | assumption | (simp; done) | (simp [go_sem]; done) | (simp [*]; done) | ((repeat rw [World.cell?_alloc_lt _ _ _ (by first | (simp; done) | (simp; omega) | omega)]); first | assumption | (simp; done)))
    have f_w1_0_2 : w1.frozen? ⟨w.heap.size + 1 + 1, 2, none⟩ = false := (hb_w1.frozen (by first | assumption | (simp; done) | (simp; omega))).trans (by first | assumption | (simp; done) | (simp [go_sem]; done) | (simp [*]; done))
    have c_w1_0_3 : w1.cell? ⟨w.heap.size + 1 + 1, 3, none⟩ = some (.int .i64 0) := (hb_w1.cell (by first | assumption | (simp; done) | (simp; omega))).trans (by first | assumption | (simp; done) | (simp [go_sem]; done) | (simp [*]; done) | ((repeat rw [World.cell?_alloc_lt _ _ _ (by first | (simp; done) | (simp; omega) | omega)]); first | assumption | (simp; done)))
    have f_w1_0_3 : w1.frozen? ⟨w.heap.size + 1 + 1, 3, none⟩ = false := (hb_w1.frozen (by first | assumption | (simp; done) | (simp; omega))).trans (by first | assumption | (simp; done) | (simp [go_sem]; done) | (simp [*]; done))
    clear hb_w1
    go_wp2_with fail
    refine bodyPost_ret (v := .tuple #[.agg #[.int .i64 0, .int .i64 0, .int .i64 0, .int .i64 0], .int .i64 1]) (by simp [results, Try.results18, go_sem, c_w1_0_0, c_w1_0_1, c_w1_0_2, c_w1_0_3, z_w1_0]) rfl ⟨rfl, ?_⟩
    have hz := B_w1.size
    go_grown
  · clear h
    go_enter Try.func18, Try.ntmps18
    go_wp2_with fail
    refine (H1.out _).mono ?_
    rintro r_w1 w1 ⟨rfl, hb_w1⟩
    have B_w1 : Below w.heap.size w w1 := by first | exact hb_w1 | exact ((Below.refl _ _).alloc (Nat.le_refl _) _).trans (hb_w1.mono (by simp)) | exact (((Below.refl _ _).alloc (Nat.le_refl _) _).alloc (by simp) _).trans (hb_w1.mono (by simp; omega)) | exact Below.trans (by go_grown) (hb_w1.mono (by simp; omega))
    have z_w1_0 : w.heap.size < w1.heap.size := by have := hb_w1.size; first | omega | (simp at this; omega)
    have c_w1_0_0 : w1.cell? ⟨w.heap.size, 0, none⟩ = some (.int .i64 hd) := (hb_w1.cell (by first | assumption | (simp; done) | (simp; omega))).trans (by first | assumption | (simp; done) | (simp [go_sem]; done) | (simp [*]; done) | ((repeat rw [World.cell?_alloc_lt _ _ _ (by first | (simp; done) | (simp; omega) | omega)]); first | assumption | (simp; done)))
    have c_w1_0_1 : w1.cell? ⟨w.heap.size, 1, none⟩ = some (.int .i64 hn) := (hb_w1.cell (by first | assumption | (simp; done) | (simp; omega))).trans (by first | assumption | (simp; done) | (simp [go_sem]; done) | (simp [*]; done) | ((repeat rw [World.cell?_alloc_lt _ _ _ (by first | (simp; done) | (simp; omega) | omega)]); first | assumption | (simp; done)))
    have z_w1_1 : w.heap.size + 1 < w1.heap.size := by have := hb_w1.size; first | omega | (simp at this; omega)
    have c_w1_1_0 : w1.cell? ⟨w.heap.size + 1, 0, none⟩ = some (.int .i64 dd) := (hb_w1.cell (by first | assumption | (simp; done) | (simp; omega))).trans (by first | assumption | (simp; done) | (simp [go_sem]; done) | (simp [*]; done) | ((repeat rw [World.cell?_alloc_lt _ _ _ (by first | (simp; done) | (simp; omega) | omega)]); first | assumption | (simp; done)))
    have c_w1_1_1 : w1.cell? ⟨w.heap.size + 1, 1, none⟩ = some (.int .i64 dn) := (hb_w1.cell (by first | assumption | (simp; done) | (simp; omega))).trans (by first | assumption | (simp; done) | (simp [go_sem]; done) | (simp [*]; done) | ((repeat rw [World.cell?_alloc_lt _ _ _ (by first | (simp; done) | (simp; omega) | omega)]); first | assumption | (simp; done)))
    have z_w1_2 : w.heap.size + 1 + 1 < w1.heap.size := by have := hb_w1.size; first | omega | (simp at this; omega)
    have c_w1_2_0 : w1.cell? ⟨w.heap.size + 1 + 1, 0, none⟩ = some (.int .i64 0) := (hb_w1.cell (by first | assumption | (simp; done) | (simp; omega))).trans (by first | assumption | (simp; done) | (simp [go_sem]; done) | (simp [*]; done) | ((repeat rw [World.cell?_alloc_lt _ _ _ (by first | (simp; done) | (simp; omega) | omega)]); first | assumption | (simp; done)))
    have f_w1_2_0 : w1.frozen? ⟨w.heap.size + 1 + 1, 0, none⟩ = false := (hb_w1.frozen (by first | assumption | (simp; done) | (simp; omega))).trans (by first | assumption | (simp; done) | (simp [go_sem]; done) | (simp [*]; done))
    have c_w1_2_1 : w1.cell? ⟨w.heap.size + 1 + 1, 1, none⟩ = some (.int .i64 0) := (hb_w1.cell (by first | assumption | (simp; done) | (simp; omega))).trans (by first | assumption | (simp; done) | (simp [go_sem]; done) | (simp [*]; done) | ((repeat rw [World.cell?_alloc_lt _ _ _ (by first | (simp; done) | (simp; omega) | omega)]); first | assumption | (simp; done)))
    have f_w1_2_1 : w1.frozen? ⟨w.heap.size + 1 + 1, 1, none⟩ = false := (hb_w1.frozen (by first | assumption | (simp; done) | (simp; omega))).trans (by first | assumption | (simp; done) | (simp [go_sem]; done) | (simp [*]; done))
    have c_w1_2_2 : w1.cell? ⟨w.heap.size + 1 + 1, 2, none⟩ = some (.int .i64 0) := (hb_w1.cell (by first | assumption | (simp; done) | (simp; omega))).trans (by first | assumption | (simp; done) | (simp [go_sem]; done) | (simp [*]; done) | ((repeat rw [World.cell?_alloc_lt _ _ _ (by first | (simp; done) | (simp; omega) | omega)]); first | assumption | (simp; done)))
    have f_w1_2_2 : w1.frozen? ⟨w.heap.size + 1 + 1, 2, none⟩ = false := (hb_w1.frozen (by first | assumption | (simp; done) | (simp; omega))).trans (by first | assumption | (simp; done) | (simp [go_sem]; done) | (simp [*]; done))
    have c_w1_2_3 : w1.cell? ⟨w.heap.size + 1 + 1, 3, none⟩ = some (.int .i64 0) := (hb_w1.cell (by first | assumption | (simp; done) | (simp; omega))).trans (by first | assumption | (simp; done) | (simp [go_sem]; done) | (simp [*]; done) | ((repeat rw [World.cell?_alloc_lt _ _ _ (by first | (simp; done) | (simp; omega) | omega)]); first | assumption | (simp; done)))
    have f_w1_2_3 : w1.frozen? ⟨w.heap.size + 1 + 1, 3, none⟩ = false := (hb_w1.frozen (by first | assumption | (simp; done) | (simp; omega))).trans (by first | assumption | (simp; done) | (simp [go_sem]; done) | (simp [*]; done))
    clear hb_w1
    go_wp2_with fail
    refine (H2.out _).mono ?_
    rintro r_w2 w2 ⟨rfl, hb_w2⟩
    have B_w2 : Below w.heap.size w w2 := by first | exact B_w1.trans (hb_w2.mono B_w1.size) | exact (B_w1.alloc B_w1.size _).trans (hb_w2.mono (by have := B_w1.size; simp; omega)) | exact ((B_w1.alloc B_w1.size _).alloc (by have := B_w1.size; simp; omega) _).trans (hb_w2.mono (by have := B_w1.size; simp; omega)) | (have := B_w1.size; exact Below.trans (by go_grown) (hb_w2.mono (by simp; omega)))
    have z_w2_0 : w.heap.size < w2.heap.size := by have := hb_w2.size; first | omega | (simp at this; omega)
    have c_w2_0_0 : w2.cell? ⟨w.heap.size, 0, none⟩ = some (.int .i64 hd) := (hb_w2.cell (by first | assumption | (simp; done) | (simp; omega))).trans (by first | assumption | (simp; done) | (simp [go_sem]; done) | (simp [*]; done) | ((repeat rw [World.cell?_alloc_lt _ _ _ (by first | (simp; done) | (simp; omega) | omega)]); first | assumption | (simp; done)))
    have c_w2_0_1 : w2.cell? ⟨w.heap.size, 1, none⟩ = some (.int .i64 hn) := (hb_w2.cell (by first | assumption | (simp; done) | (simp; omega))).trans (by first | assumption | (simp; done) | (simp [go_sem]; done) | (simp [*]; done) | ((repeat rw [World.cell?_alloc_lt _ _ _ (by first | (simp; done) | (simp; omega) | omega)]); first | assumption | (simp; done)))
    have z_w2_1 : w.heap.size + 1 < w2.heap.size := by have := hb_w2.size; first | omega | (simp at this; omega)
    have c_w2_1_0 : w2.cell? ⟨w.heap.size + 1, 0, none⟩ = some (.int .i64 dd) := (hb_w2.cell (by first | assumption | (simp; done) | (simp; omega))).trans (by first | assumption | (simp; done) | (simp [go_sem]; done) | (simp [*]; done) | ((repeat rw [World.cell?_alloc_lt _ _ _ (by first | (simp; done) | (simp; omega) | omega)]); first | assumption | (simp; done)))
    have c_w2_1_1 : w2.cell? ⟨w.heap.size + 1, 1, none⟩ = some (.int .i64 dn) := (hb_w2.cell (by first | assumption | (simp; done) | (simp; omega))).trans (by first | assumption | (simp; done) | (simp [go_sem]; done) | (simp [*]; done) | ((repeat rw [World.cell?_alloc_lt _ _ _ (by first | (simp; done) | (simp; omega) | omega)]); first | assumption | (simp; done)))
    have z_w2_2 : w.heap.size + 1 + 1 < w2.heap.size := by have := hb_w2.size; first | omega | (simp at this; omega)
    have c_w2_2_0 : w2.cell? ⟨w.heap.size + 1 + 1, 0, none⟩ = some (.int .i64 0) := (hb_w2.cell (by first | assumption | (simp; done) | (simp; omega))).trans (by first | assumption | (simp; done) | (simp [go_sem]; done) | (simp [*]; done) | ((repeat rw [World.cell?_alloc_lt _ _ _ (by first | (simp; done) | (simp; omega) | omega)]); first | assumption | (simp; done)))
    have f_w2_2_0 : w2.frozen? ⟨w.heap.size + 1 + 1, 0, none⟩ = false := (hb_w2.frozen (by first | assumption | (simp; done) | (simp; omega))).trans (by first | assumption | (simp; done) | (simp [go_sem]; done) | (simp [*]; done))
    have c_w2_2_1 : w2.cell? ⟨w.heap.size + 1 + 1, 1, none⟩ = some (.int .i64 0) := (hb_w2.cell (by first | assumption | (simp; done) | (simp; omega))).trans (by first | assumption | (simp; done) | (simp [go_sem]; done) | (simp [*]; done) | ((repeat rw [World.cell?_alloc_lt _ _ _ (by first | (simp; done) | (simp; omega) | omega)]); first | assumption | (simp; done)))
    have f_w2_2_1 : w2.frozen? ⟨w.heap.size + 1 + 1, 1, none⟩ = false := (hb_w2.frozen (by first | assumption | (simp; done) | (simp; omega))).trans (by first | assumption | (simp; done) | (simp [go_sem]; done) | (simp [*]; done))
    have c_w2_2_2 : w2.cell? ⟨w.heap.size + 1 + 1, 2, none⟩ = some (.int .i64 0) := (hb_w2.cell (by first | assumption | (simp; done) | (simp; omega))).trans (by first | assumption | (simp; done) | (simp [go_sem]; done) | (simp [*]; done) | ((repeat rw [World.cell?_alloc_lt _ _ _ (by first | (simp; done) | (simp; omega) | omega)]); first | assumption | (simp; done)))
    have f_w2_2_2 : w2.frozen? ⟨w.heap.size + 1 + 1, 2, none⟩ = false := (hb_w2.frozen (by first | assumption | (simp; done) | (simp; omega))).trans (by first | assumption | (simp; done) | (simp [go_sem]; done) | (simp [*]; done))
    have c_w2_2_3 : w2.cell? ⟨w.heap.size + 1 + 1, 3, none⟩ = some (.int .i64 0) := (hb_w2.cell (by first | assumption | (simp; done) | (simp; omega))).trans (by first | assumption | (simp; done) | (simp [go_sem]; done) | (simp [*]; done) | ((repeat rw [World.cell?_alloc_lt _ _ _ (by first | (simp; done) | (simp; omega) | omega)]); first | assumption | (simp; done)))
    have f_w2_2_3 : w2.frozen? ⟨w.heap.size + 1 + 1, 3, none⟩ = false := (hb_w2.frozen (by first | assumption | (simp; done) | (simp; omega))).trans (by first | assumption | (simp; done) | (simp [go_sem]; done) | (simp [*]; done))
    clear c_w1_0_0 c_w1_0_1 c_w1_1_0 c_w1_1_1 c_w1_2_0 f_w1_2_0 c_w1_2_1 f_w1_2_1 c_w1_2_2 f_w1_2_2 c_w1_2_3 f_w1_2_3 z_w1_0 z_w1_1 z_w1_2 B_w1 hb_w2
    go_wp2_with fail
    refine bodyPost_ret (v := .tuple #[.agg #[.int .i64 0, .int .i64 0, .int .i64 0, .int .i64 0], .int .i64 1]) (by simp [results, Try.results18, go_sem, c_w2_2_0, c_w2_2_1, c_w2_2_2, c_w2_2_3, z_w2_2]) rfl ⟨rfl, ?_⟩
    have hz := B_w2.size
    go_grown
set_option maxHeartbeats 1000000 in
theorem bulkJudges_walk (hd : Int) (_ : (Lit.int .i64 hd).wf = true) (hn : Int) (_ : (Lit.int .i64 hn).wf = true) (dd : Int) (_ : (Lit.int .i64 dd).wf = true) (dn : Int) (_ : (Lit.int .i64 dn).wf = true) (w : World) :
    Calls Try.prog 4 #[.agg #[.int .i64 hd, .int .i64 hn], .agg #[.int .i64 dd, .int .i64 dn]] w fun e w' => e = .returned (.bool true) ∧ Below w.heap.size w w' := by
  obtain ⟨a, b, c, d, e, hP, hR⟩ : ∃ a b c d e : Int,
    (∀ w, Calls Try.prog 17 #[.agg #[.int .i64 hd, .int .i64 hn], .agg #[.int .i64 dd, .int .i64 dn]] w fun r w' => r = .returned (.tuple #[.agg #[.int .i64 a, .int .i64 b, .int .i64 c, .int .i64 d], .int .i64 e]) ∧ Below w.heap.size w w') ∧
    (∀ w, Calls Try.prog 18 #[.agg #[.int .i64 hd, .int .i64 hn], .agg #[.int .i64 dd, .int .i64 dn]] w fun r w' => r = .returned (.tuple #[.agg #[.int .i64 a, .int .i64 b, .int .i64 c, .int .i64 d], .int .i64 e]) ∧ Below w.heap.size w w') := by
    cases h : (mvOk hd hn && mvOk dd dn) with
    | false => exact ⟨_, _, _, _, _, judge_bad hd hn dd dn h, judgeR_bad hd hn dd dn h⟩
    | true =>
      rw [Bool.and_eq_true] at h
      obtain ⟨a, b, c, d, h1, h2⟩ := judge_both hd hn dd dn h.1 h.2
      exact ⟨_, _, _, _, _, h1, h2⟩
  have HP := Lib.hid hP
  have HR := Lib.hid hR
  clear hP hR
  go_enter Try.func4, Try.ntmps4
  go_wp2_with fail
  refine (HP.out _).mono ?_
  rintro r_w1 w1 ⟨rfl, hb_w1⟩
  have B_w1 : Below w.heap.size w w1 := by first | exact hb_w1 | exact ((Below.refl _ _).alloc (Nat.le_refl _) _).trans (hb_w1.mono (by simp)) | exact (((Below.refl _ _).alloc (Nat.le_refl _) _).alloc (by simp) _).trans (hb_w1.mono (by simp; omega)) | exact Below.trans (by go_grown) (hb_w1.mono (by simp; omega))
  have z_w1_0 : w.heap.size < w1.heap.size := by have := hb_w1.size; first | omega | (simp at this; omega)
  have c_w1_0_0 : w1.cell? ⟨w.heap.size, 0, none⟩ = some (.int .i64 hd) := (hb_w1.cell (by first | assumption | (simp; done) | (simp; omega))).trans (by first | assumption | (simp; done) | (simp [go_sem]; done) | (simp [*]; done) | ((repeat rw [World.cell?_alloc_lt _ _ _ (by first | (simp; done) | (simp; omega) | omega)]); first | assumption | (simp; done)))
  have c_w1_0_1 : w1.cell? ⟨w.heap.size, 1, none⟩ = some (.int .i64 hn) := (hb_w1.cell (by first | assumption | (simp; done) | (simp; omega))).trans (by first | assumption | (simp; done) | (simp [go_sem]; done) | (simp [*]; done) | ((repeat rw [World.cell?_alloc_lt _ _ _ (by first | (simp; done) | (simp; omega) | omega)]); first | assumption | (simp; done)))
  have z_w1_1 : w.heap.size + 1 < w1.heap.size := by have := hb_w1.size; first | omega | (simp at this; omega)
  have c_w1_1_0 : w1.cell? ⟨w.heap.size + 1, 0, none⟩ = some (.int .i64 dd) := (hb_w1.cell (by first | assumption | (simp; done) | (simp; omega))).trans (by first | assumption | (simp; done) | (simp [go_sem]; done) | (simp [*]; done) | ((repeat rw [World.cell?_alloc_lt _ _ _ (by first | (simp; done) | (simp; omega) | omega)]); first | assumption | (simp; done)))
  have c_w1_1_1 : w1.cell? ⟨w.heap.size + 1, 1, none⟩ = some (.int .i64 dn) := (hb_w1.cell (by first | assumption | (simp; done) | (simp; omega))).trans (by first | assumption | (simp; done) | (simp [go_sem]; done) | (simp [*]; done) | ((repeat rw [World.cell?_alloc_lt _ _ _ (by first | (simp; done) | (simp; omega) | omega)]); first | assumption | (simp; done)))
  clear hb_w1
  go_wp2_with fail
  refine (HR.out _).mono ?_
  rintro r_w2 w2 ⟨rfl, hb_w2⟩
  have B_w2 : Below w.heap.size w w2 := by first | exact B_w1.trans (hb_w2.mono B_w1.size) | exact (B_w1.alloc B_w1.size _).trans (hb_w2.mono (by have := B_w1.size; simp; omega)) | exact ((B_w1.alloc B_w1.size _).alloc (by have := B_w1.size; simp; omega) _).trans (hb_w2.mono (by have := B_w1.size; simp; omega)) | (have := B_w1.size; exact Below.trans (by go_grown) (hb_w2.mono (by simp; omega)))
  have z_w2_0 : w1.heap.size < w2.heap.size := by have := hb_w2.size; first | omega | (simp at this; omega)
  have c_w2_0_0 : w2.cell? ⟨w1.heap.size, 0, none⟩ = some (.int .i64 a) := (hb_w2.cell (by first | assumption | (simp; done) | (simp; omega))).trans (by first | assumption | (simp; done) | (simp [go_sem]; done) | (simp [*]; done) | ((repeat rw [World.cell?_alloc_lt _ _ _ (by first | (simp; done) | (simp; omega) | omega)]); first | assumption | (simp; done)))
  have c_w2_0_1 : w2.cell? ⟨w1.heap.size, 1, none⟩ = some (.int .i64 b) := (hb_w2.cell (by first | assumption | (simp; done) | (simp; omega))).trans (by first | assumption | (simp; done) | (simp [go_sem]; done) | (simp [*]; done) | ((repeat rw [World.cell?_alloc_lt _ _ _ (by first | (simp; done) | (simp; omega) | omega)]); first | assumption | (simp; done)))
  have c_w2_0_2 : w2.cell? ⟨w1.heap.size, 2, none⟩ = some (.int .i64 c) := (hb_w2.cell (by first | assumption | (simp; done) | (simp; omega))).trans (by first | assumption | (simp; done) | (simp [go_sem]; done) | (simp [*]; done) | ((repeat rw [World.cell?_alloc_lt _ _ _ (by first | (simp; done) | (simp; omega) | omega)]); first | assumption | (simp; done)))
  have c_w2_0_3 : w2.cell? ⟨w1.heap.size, 3, none⟩ = some (.int .i64 d) := (hb_w2.cell (by first | assumption | (simp; done) | (simp; omega))).trans (by first | assumption | (simp; done) | (simp [go_sem]; done) | (simp [*]; done) | ((repeat rw [World.cell?_alloc_lt _ _ _ (by first | (simp; done) | (simp; omega) | omega)]); first | assumption | (simp; done)))
  clear c_w1_0_0 c_w1_0_1 c_w1_1_0 c_w1_1_1 z_w1_0 z_w1_1 B_w1 hb_w2
  go_wp2_with fail
  go_ret
  exact ⟨rfl, B_w2.alloc B_w2.size _⟩
end Go.Proofs.Ytbeilpecdimheaa
