/- Contract: Judge (bulk), by directions and lengths. -/
import Derived.Test.YtbeilpecdimheaaJudge
namespace Go.Proofs.Ytbeilpecdimheaa
open Go.RowKit
set_option linter.unusedVariables false
set_option maxRecDepth 100000

set_option maxHeartbeats 1000000 in
theorem jp_12lt (hn : Int) (a1 : 1 ≤ hn) (a2 : hn ≤ 4294967295) (dn : Int) (b1 : 1 ≤ dn) (b2 : dn ≤ 4294967295) (hlt : hn < dn) (w : World) : Calls Try.prog 17 #[.agg #[.int .i64 1, .int .i64 (hn)], .agg #[.int .i64 2, .int .i64 (dn)]] w fun r w' => r = .returned (.tuple #[.agg #[.int .i64 8, .int .i64 0, .int .i64 (hn), .int .i64 2], .int .i64 0]) ∧ Below w.heap.size w w' := by
  have t1 := transfer_any 1 (hn)
  have t2 := transfer_any 2 (dn)
  rw [show mvOk 1 (hn) = true by unfold mvOk; simp <;> omega] at t1
  rw [show mvOk 2 (dn) = true by unfold mvOk; simp <;> omega] at t2
  have H1 := Lib.hid t1
  have H2 := Lib.hid t2
  have hm : min (hn : Int) (dn) = hn := by omega
  clear t1 t2
  go_enter Try.func17, Try.ntmps17
  go_wp2_with fail
  refine (H1.out _).mono ?_
  rintro r_w1 w1 ⟨rfl, hb_w1⟩
  have B_w1 : Below w.heap.size w w1 := by first | exact hb_w1 | exact ((Below.refl _ _).alloc (Nat.le_refl _) _).trans (hb_w1.mono (by simp)) | exact (((Below.refl _ _).alloc (Nat.le_refl _) _).alloc (by simp) _).trans (hb_w1.mono (by simp; omega)) | exact Below.trans (by go_grown) (hb_w1.mono (by simp; omega))
  have z_w1_0 : w.heap.size < w1.heap.size := by have := hb_w1.size; first | omega | (simp at this; omega)
  have c_w1_0_0 : w1.cell? ⟨w.heap.size, 0, none⟩ = some (.int .i64 1) := (hb_w1.cell (by first | assumption | (simp; done) | (simp; omega))).trans (by first | assumption | (simp; done) | (simp [go_sem]; done) | (simp [*]; done) | ((repeat rw [World.cell?_alloc_lt _ _ _ (by first | (simp; done) | (simp; omega) | omega)]); first | assumption | (simp; done)))
  have c_w1_0_1 : w1.cell? ⟨w.heap.size, 1, none⟩ = some (.int .i64 (hn)) := (hb_w1.cell (by first | assumption | (simp; done) | (simp; omega))).trans (by first | assumption | (simp; done) | (simp [go_sem]; done) | (simp [*]; done) | ((repeat rw [World.cell?_alloc_lt _ _ _ (by first | (simp; done) | (simp; omega) | omega)]); first | assumption | (simp; done)))
  have z_w1_1 : w.heap.size + 1 < w1.heap.size := by have := hb_w1.size; first | omega | (simp at this; omega)
  have c_w1_1_0 : w1.cell? ⟨w.heap.size + 1, 0, none⟩ = some (.int .i64 2) := (hb_w1.cell (by first | assumption | (simp; done) | (simp; omega))).trans (by first | assumption | (simp; done) | (simp [go_sem]; done) | (simp [*]; done) | ((repeat rw [World.cell?_alloc_lt _ _ _ (by first | (simp; done) | (simp; omega) | omega)]); first | assumption | (simp; done)))
  have c_w1_1_1 : w1.cell? ⟨w.heap.size + 1, 1, none⟩ = some (.int .i64 (dn)) := (hb_w1.cell (by first | assumption | (simp; done) | (simp; omega))).trans (by first | assumption | (simp; done) | (simp [go_sem]; done) | (simp [*]; done) | ((repeat rw [World.cell?_alloc_lt _ _ _ (by first | (simp; done) | (simp; omega) | omega)]); first | assumption | (simp; done)))
  have z_w1_2 : w.heap.size + 1 + 1 < w1.heap.size := by have := hb_w1.size; first | omega | (simp at this; omega)
  have c_w1_2_0 : w1.cell? ⟨w.heap.size + 1 + 1, 0, none⟩ = some (.int .i64 0) := (hb_w1.cell (by first | assumption | (simp; done) | (simp; omega))).trans (by first | assumption | (simp; done) | (simp [go_sem]; done) | (simp [*]; done) | ((repeat rw [World.cell?_alloc_lt _ _ _ (by first | (simp; done) | (simp; omega) | omega)]); first | assumption | (simp; done)))
  have f_w1_2_0 : w1.frozen? ⟨w.heap.size + 1 + 1, 0, none⟩ = false := (hb_w1.frozen (by first | assumption | (simp; done) | (simp; omega))).trans (by first | assumption | (simp; done) | (simp [go_sem]; done) | (simp [*]; done))
  have c_w1_2_1 : w1.cell? ⟨w.heap.size + 1 + 1, 1, none⟩ = some (.int .i64 0) := (hb_w1.cell (by first | assumption | (simp; done) | (simp; omega))).trans (by first | assumption | (simp; done) | (simp [go_sem]; done) | (simp [*]; done) | ((repeat rw [World.cell?_alloc_lt _ _ _ (by first | (simp; done) | (simp; omega) | omega)]); first | assumption | (simp; done)))
  have f_w1_2_1 : w1.frozen? ⟨w.heap.size + 1 + 1, 1, none⟩ = false := (hb_w1.frozen (by first | assumption | (simp; done) | (simp; omega))).trans (by first | assumption | (simp; done) | (simp [go_sem]; done) | (simp [*]; done))
  have c_w1_2_2 : w1.cell? ⟨w.heap.size + 1 + 1, 2, none⟩ = some (.int .i64 0) := (hb_w1.cell (by first | assumption | (simp; done) | (simp; omega))).trans (by first | assumption | (simp; done) | (simp [go_sem]; done) | (simp [*]; done) | ((repeat rw [World.cell?_alloc_lt _ _ _ (by first | (simp; done) | (simp; omega) | omega)]); first | assumption | (simp; done)))
  have f_w1_2_2 : w1.frozen? ⟨w.heap.size + 1 + 1, 2, none⟩ = false := (hb_w1.frozen (by first | assumption | (simp; done) | (simp; omega))).trans (by first | assumption | (simp; done) | (simp [go_sem]; done) | (simp [*]; done))
  have c_w1_2_3 : w1.cell? ⟨w.heap.size + 1 + 1, 3, none⟩ = some (.int .i64 0) := (hb_w1.cell (by first | assumption | (simp; done) | (simp; omega))).trans (by first | assumption | (simp; done) | (simp [go_sem]; done) | (simp [*]; done) | ((repeat rw [World.cell?_alloc_lt _ _ _ (by first | (simp; done) | (simp; omega) | omega)]); first | assumption | (simp; done)))
  have f_w1_2_3 : w1.frozen? ⟨w.heap.size + 1 + 1, 3, none⟩ = false := (hb_w1.frozen (by first | assumption | (simp; done) | (simp; omega))).trans (by first | assumption | (simp; done) | (simp [go_sem]; done) | (simp [*]; done))
  clear hb_w1
  go_wp2_with fail
  refine (H2.out _).mono ?_
  rintro r_w2 w2 ⟨rfl, hb_w2⟩
  have B_w2 : Below w.heap.size w w2 := by first | exact B_w1.trans (hb_w2.mono B_w1.size) | exact (B_w1.alloc B_w1.size _).trans (hb_w2.mono (by have := B_w1.size; simp; omega)) | exact ((B_w1.alloc B_w1.size _).alloc (by have := B_w1.size; simp; omega) _).trans (hb_w2.mono (by have := B_w1.size; simp; omega)) | (have := B_w1.size; exact Below.trans (by go_grown) (hb_w2.mono (by simp; omega)))
  have z_w2_0 : w.heap.size < w2.heap.size := by have := hb_w2.size; first | omega | (simp at this; omega)
  have c_w2_0_0 : w2.cell? ⟨w.heap.size, 0, none⟩ = some (.int .i64 1) := (hb_w2.cell (by first | assumption | (simp; done) | (simp; omega))).trans (by first | assumption | (simp; done) | (simp [go_sem]; done) | (simp [*]; done) | ((repeat rw [World.cell?_alloc_lt _ _ _ (by first | (simp; done) | (simp; omega) | omega)]); first | assumption | (simp; done)))
  have c_w2_0_1 : w2.cell? ⟨w.heap.size, 1, none⟩ = some (.int .i64 (hn)) := (hb_w2.cell (by first | assumption | (simp; done) | (simp; omega))).trans (by first | assumption | (simp; done) | (simp [go_sem]; done) | (simp [*]; done) | ((repeat rw [World.cell?_alloc_lt _ _ _ (by first | (simp; done) | (simp; omega) | omega)]); first | assumption | (simp; done)))
  have z_w2_1 : w.heap.size + 1 < w2.heap.size := by have := hb_w2.size; first | omega | (simp at this; omega)
  have c_w2_1_0 : w2.cell? ⟨w.heap.size + 1, 0, none⟩ = some (.int .i64 2) := (hb_w2.cell (by first | assumption | (simp; done) | (simp; omega))).trans (by first | assumption | (simp; done) | (simp [go_sem]; done) | (simp [*]; done) | ((repeat rw [World.cell?_alloc_lt _ _ _ (by first | (simp; done) | (simp; omega) | omega)]); first | assumption | (simp; done)))
  have c_w2_1_1 : w2.cell? ⟨w.heap.size + 1, 1, none⟩ = some (.int .i64 (dn)) := (hb_w2.cell (by first | assumption | (simp; done) | (simp; omega))).trans (by first | assumption | (simp; done) | (simp [go_sem]; done) | (simp [*]; done) | ((repeat rw [World.cell?_alloc_lt _ _ _ (by first | (simp; done) | (simp; omega) | omega)]); first | assumption | (simp; done)))
  have z_w2_2 : w.heap.size + 1 + 1 < w2.heap.size := by have := hb_w2.size; first | omega | (simp at this; omega)
  have c_w2_2_0 : w2.cell? ⟨w.heap.size + 1 + 1, 0, none⟩ = some (.int .i64 0) := (hb_w2.cell (by first | assumption | (simp; done) | (simp; omega))).trans (by first | assumption | (simp; done) | (simp [go_sem]; done) | (simp [*]; done) | ((repeat rw [World.cell?_alloc_lt _ _ _ (by first | (simp; done) | (simp; omega) | omega)]); first | assumption | (simp; done)))
  have f_w2_2_0 : w2.frozen? ⟨w.heap.size + 1 + 1, 0, none⟩ = false := (hb_w2.frozen (by first | assumption | (simp; done) | (simp; omega))).trans (by first | assumption | (simp; done) | (simp [go_sem]; done) | (simp [*]; done))
  have c_w2_2_1 : w2.cell? ⟨w.heap.size + 1 + 1, 1, none⟩ = some (.int .i64 0) := (hb_w2.cell (by first | assumption | (simp; done) | (simp; omega))).trans (by first | assumption | (simp; done) | (simp [go_sem]; done) | (simp [*]; done) | ((repeat rw [World.cell?_alloc_lt _ _ _ (by first | (simp; done) | (simp; omega) | omega)]); first | assumption | (simp; done)))
  have f_w2_2_1 : w2.frozen? ⟨w.heap.size + 1 + 1, 1, none⟩ = false := (hb_w2.frozen (by first | assumption | (simp; done) | (simp; omega))).trans (by first | assumption | (simp; done) | (simp [go_sem]; done) | (simp [*]; done))
  have c_w2_2_2 : w2.cell? ⟨w.heap.size + 1 + 1, 2, none⟩ = some (.int .i64 0) := (hb_w2.cell (by first | assumption | (simp; done) | (simp; omega))).trans (by first | assumption | (simp; done) | (simp [go_sem]; done) | (simp [*]; done) | ((repeat rw [World.cell?_alloc_lt _ _ _ (by first | (simp; done) | (simp; omega) | omega)]); first | assumption | (simp; done)))
  have f_w2_2_2 : w2.frozen? ⟨w.heap.size + 1 + 1, 2, none⟩ = false := (hb_w2.frozen (by first | assumption | (simp; done) | (simp; omega))).trans (by first | assumption | (simp; done) | (simp [go_sem]; done) | (simp [*]; done))
  have c_w2_2_3 : w2.cell? ⟨w.heap.size + 1 + 1, 3, none⟩ = some (.int .i64 0) := (hb_w2.cell (by first | assumption | (simp; done) | (simp; omega))).trans (by first | assumption | (simp; done) | (simp [go_sem]; done) | (simp [*]; done) | ((repeat rw [World.cell?_alloc_lt _ _ _ (by first | (simp; done) | (simp; omega) | omega)]); first | assumption | (simp; done)))
  have f_w2_2_3 : w2.frozen? ⟨w.heap.size + 1 + 1, 3, none⟩ = false := (hb_w2.frozen (by first | assumption | (simp; done) | (simp; omega))).trans (by first | assumption | (simp; done) | (simp [go_sem]; done) | (simp [*]; done))
  clear c_w1_0_0 c_w1_0_1 c_w1_1_0 c_w1_1_1 c_w1_2_0 f_w1_2_0 c_w1_2_1 f_w1_2_1 c_w1_2_2 f_w1_2_2 c_w1_2_3 f_w1_2_3 z_w1_0 z_w1_1 z_w1_2 B_w1 hb_w2
  go_wp2_with fail
  refine bodyPost_ret (v := .tuple #[.agg #[.int .i64 8, .int .i64 0, .int .i64 (hn), .int .i64 2], .int .i64 0]) (by simp [results, Try.results17, go_sem, hm, c_w2_2_0, c_w2_2_1, c_w2_2_2, c_w2_2_3, z_w2_2]) rfl ⟨rfl, ?_⟩
  have hz := B_w2.size
  go_grown
set_option maxHeartbeats 1000000 in
theorem jp_12eq (hn : Int) (a1 : 1 ≤ hn) (a2 : hn ≤ 4294967295) (w : World) : Calls Try.prog 17 #[.agg #[.int .i64 1, .int .i64 (hn)], .agg #[.int .i64 2, .int .i64 (hn)]] w fun r w' => r = .returned (.tuple #[.agg #[.int .i64 8, .int .i64 0, .int .i64 (hn), .int .i64 2], .int .i64 0]) ∧ Below w.heap.size w w' := by
  have t1 := transfer_any 1 (hn)
  have t2 := transfer_any 2 (hn)
  rw [show mvOk 1 (hn) = true by unfold mvOk; simp <;> omega] at t1
  rw [show mvOk 2 (hn) = true by unfold mvOk; simp <;> omega] at t2
  have H1 := Lib.hid t1
  have H2 := Lib.hid t2
  have hm : min (hn : Int) (hn) = hn := by omega
  clear t1 t2
  go_enter Try.func17, Try.ntmps17
  go_wp2_with fail
  refine (H1.out _).mono ?_
  rintro r_w1 w1 ⟨rfl, hb_w1⟩
  have B_w1 : Below w.heap.size w w1 := by first | exact hb_w1 | exact ((Below.refl _ _).alloc (Nat.le_refl _) _).trans (hb_w1.mono (by simp)) | exact (((Below.refl _ _).alloc (Nat.le_refl _) _).alloc (by simp) _).trans (hb_w1.mono (by simp; omega)) | exact Below.trans (by go_grown) (hb_w1.mono (by simp; omega))
  have z_w1_0 : w.heap.size < w1.heap.size := by have := hb_w1.size; first | omega | (simp at this; omega)
  have c_w1_0_0 : w1.cell? ⟨w.heap.size, 0, none⟩ = some (.int .i64 1) := (hb_w1.cell (by first | assumption | (simp; done) | (simp; omega))).trans (by first | assumption | (simp; done) | (simp [go_sem]; done) | (simp [*]; done) | ((repeat rw [World.cell?_alloc_lt _ _ _ (by first | (simp; done) | (simp; omega) | omega)]); first | assumption | (simp; done)))
  have c_w1_0_1 : w1.cell? ⟨w.heap.size, 1, none⟩ = some (.int .i64 (hn)) := (hb_w1.cell (by first | assumption | (simp; done) | (simp; omega))).trans (by first | assumption | (simp; done) | (simp [go_sem]; done) | (simp [*]; done) | ((repeat rw [World.cell?_alloc_lt _ _ _ (by first | (simp; done) | (simp; omega) | omega)]); first | assumption | (simp; done)))
  have z_w1_1 : w.heap.size + 1 < w1.heap.size := by have := hb_w1.size; first | omega | (simp at this; omega)
  have c_w1_1_0 : w1.cell? ⟨w.heap.size + 1, 0, none⟩ = some (.int .i64 2) := (hb_w1.cell (by first | assumption | (simp; done) | (simp; omega))).trans (by first | assumption | (simp; done) | (simp [go_sem]; done) | (simp [*]; done) | ((repeat rw [World.cell?_alloc_lt _ _ _ (by first | (simp; done) | (simp; omega) | omega)]); first | assumption | (simp; done)))
  have c_w1_1_1 : w1.cell? ⟨w.heap.size + 1, 1, none⟩ = some (.int .i64 (hn)) := (hb_w1.cell (by first | assumption | (simp; done) | (simp; omega))).trans (by first | assumption | (simp; done) | (simp [go_sem]; done) | (simp [*]; done) | ((repeat rw [World.cell?_alloc_lt _ _ _ (by first | (simp; done) | (simp; omega) | omega)]); first | assumption | (simp; done)))
  have z_w1_2 : w.heap.size + 1 + 1 < w1.heap.size := by have := hb_w1.size; first | omega | (simp at this; omega)
  have c_w1_2_0 : w1.cell? ⟨w.heap.size + 1 + 1, 0, none⟩ = some (.int .i64 0) := (hb_w1.cell (by first | assumption | (simp; done) | (simp; omega))).trans (by first | assumption | (simp; done) | (simp [go_sem]; done) | (simp [*]; done) | ((repeat rw [World.cell?_alloc_lt _ _ _ (by first | (simp; done) | (simp; omega) | omega)]); first | assumption | (simp; done)))
  have f_w1_2_0 : w1.frozen? ⟨w.heap.size + 1 + 1, 0, none⟩ = false := (hb_w1.frozen (by first | assumption | (simp; done) | (simp; omega))).trans (by first | assumption | (simp; done) | (simp [go_sem]; done) | (simp [*]; done))
  have c_w1_2_1 : w1.cell? ⟨w.heap.size + 1 + 1, 1, none⟩ = some (.int .i64 0) := (hb_w1.cell (by first | assumption | (simp; done) | (simp; omega))).trans (by first | assumption | (simp; done) | (simp [go_sem]; done) | (simp [*]; done) | ((repeat rw [World.cell?_alloc_lt _ _ _ (by first | (simp; done) | (simp; omega) | omega)]); first | assumption | (simp; done)))
  have f_w1_2_1 : w1.frozen? ⟨w.heap.size + 1 + 1, 1, none⟩ = false := (hb_w1.frozen (by first | assumption | (simp; done) | (simp; omega))).trans (by first | assumption | (simp; done) | (simp [go_sem]; done) | (simp [*]; done))
  have c_w1_2_2 : w1.cell? ⟨w.heap.size + 1 + 1, 2, none⟩ = some (.int .i64 0) := (hb_w1.cell (by first | assumption | (simp; done) | (simp; omega))).trans (by first | assumption | (simp; done) | (simp [go_sem]; done) | (simp [*]; done) | ((repeat rw [World.cell?_alloc_lt _ _ _ (by first | (simp; done) | (simp; omega) | omega)]); first | assumption | (simp; done)))
  have f_w1_2_2 : w1.frozen? ⟨w.heap.size + 1 + 1, 2, none⟩ = false := (hb_w1.frozen (by first | assumption | (simp; done) | (simp; omega))).trans (by first | assumption | (simp; done) | (simp [go_sem]; done) | (simp [*]; done))
  have c_w1_2_3 : w1.cell? ⟨w.heap.size + 1 + 1, 3, none⟩ = some (.int .i64 0) := (hb_w1.cell (by first | assumption | (simp; done) | (simp; omega))).trans (by first | assumption | (simp; done) | (simp [go_sem]; done) | (simp [*]; done) | ((repeat rw [World.cell?_alloc_lt _ _ _ (by first | (simp; done) | (simp; omega) | omega)]); first | assumption | (simp; done)))
  have f_w1_2_3 : w1.frozen? ⟨w.heap.size + 1 + 1, 3, none⟩ = false := (hb_w1.frozen (by first | assumption | (simp; done) | (simp; omega))).trans (by first | assumption | (simp; done) | (simp [go_sem]; done) | (simp [*]; done))
  clear hb_w1
  go_wp2_with fail
  refine (H2.out _).mono ?_
  rintro r_w2 w2 ⟨rfl, hb_w2⟩
  have B_w2 : Below w.heap.size w w2 := by first | exact B_w1.trans (hb_w2.mono B_w1.size) | exact (B_w1.alloc B_w1.size _).trans (hb_w2.mono (by have := B_w1.size; simp; omega)) | exact ((B_w1.alloc B_w1.size _).alloc (by have := B_w1.size; simp; omega) _).trans (hb_w2.mono (by have := B_w1.size; simp; omega)) | (have := B_w1.size; exact Below.trans (by go_grown) (hb_w2.mono (by simp; omega)))
  have z_w2_0 : w.heap.size < w2.heap.size := by have := hb_w2.size; first | omega | (simp at this; omega)
  have c_w2_0_0 : w2.cell? ⟨w.heap.size, 0, none⟩ = some (.int .i64 1) := (hb_w2.cell (by first | assumption | (simp; done) | (simp; omega))).trans (by first | assumption | (simp; done) | (simp [go_sem]; done) | (simp [*]; done) | ((repeat rw [World.cell?_alloc_lt _ _ _ (by first | (simp; done) | (simp; omega) | omega)]); first | assumption | (simp; done)))
  have c_w2_0_1 : w2.cell? ⟨w.heap.size, 1, none⟩ = some (.int .i64 (hn)) := (hb_w2.cell (by first | assumption | (simp; done) | (simp; omega))).trans (by first | assumption | (simp; done) | (simp [go_sem]; done) | (simp [*]; done) | ((repeat rw [World.cell?_alloc_lt _ _ _ (by first | (simp; done) | (simp; omega) | omega)]); first | assumption | (simp; done)))
  have z_w2_1 : w.heap.size + 1 < w2.heap.size := by have := hb_w2.size; first | omega | (simp at this; omega)
  have c_w2_1_0 : w2.cell? ⟨w.heap.size + 1, 0, none⟩ = some (.int .i64 2) := (hb_w2.cell (by first | assumption | (simp; done) | (simp; omega))).trans (by first | assumption | (simp; done) | (simp [go_sem]; done) | (simp [*]; done) | ((repeat rw [World.cell?_alloc_lt _ _ _ (by first | (simp; done) | (simp; omega) | omega)]); first | assumption | (simp; done)))
  have c_w2_1_1 : w2.cell? ⟨w.heap.size + 1, 1, none⟩ = some (.int .i64 (hn)) := (hb_w2.cell (by first | assumption | (simp; done) | (simp; omega))).trans (by first | assumption | (simp; done) | (simp [go_sem]; done) | (simp [*]; done) | ((repeat rw [World.cell?_alloc_lt _ _ _ (by first | (simp; done) | (simp; omega) | omega)]); first | assumption | (simp; done)))
  have z_w2_2 : w.heap.size + 1 + 1 < w2.heap.size := by have := hb_w2.size; first | omega | (simp at this; omega)
  have c_w2_2_0 : w2.cell? ⟨w.heap.size + 1 + 1, 0, none⟩ = some (.int .i64 0) := (hb_w2.cell (by first | assumption | (simp; done) | (simp; omega))).trans (by first | assumption | (simp; done) | (simp [go_sem]; done) | (simp [*]; done) | ((repeat rw [World.cell?_alloc_lt _ _ _ (by first | (simp; done) | (simp; omega) | omega)]); first | assumption | (simp; done)))
  have f_w2_2_0 : w2.frozen? ⟨w.heap.size + 1 + 1, 0, none⟩ = false := (hb_w2.frozen (by first | assumption | (simp; done) | (simp; omega))).trans (by first | assumption | (simp; done) | (simp [go_sem]; done) | (simp [*]; done))
  have c_w2_2_1 : w2.cell? ⟨w.heap.size + 1 + 1, 1, none⟩ = some (.int .i64 0) := (hb_w2.cell (by first | assumption | (simp; done) | (simp; omega))).trans (by first | assumption | (simp; done) | (simp [go_sem]; done) | (simp [*]; done) | ((repeat rw [World.cell?_alloc_lt _ _ _ (by first | (simp; done) | (simp; omega) | omega)]); first | assumption | (simp; done)))
  have f_w2_2_1 : w2.frozen? ⟨w.heap.size + 1 + 1, 1, none⟩ = false := (hb_w2.frozen (by first | assumption | (simp; done) | (simp; omega))).trans (by first | assumption | (simp; done) | (simp [go_sem]; done) | (simp [*]; done))
  have c_w2_2_2 : w2.cell? ⟨w.heap.size + 1 + 1, 2, none⟩ = some (.int .i64 0) := (hb_w2.cell (by first | assumption | (simp; done) | (simp; omega))).trans (by first | assumption | (simp; done) | (simp [go_sem]; done) | (simp [*]; done) | ((repeat rw [World.cell?_alloc_lt _ _ _ (by first | (simp; done) | (simp; omega) | omega)]); first | assumption | (simp; done)))
  have f_w2_2_2 : w2.frozen? ⟨w.heap.size + 1 + 1, 2, none⟩ = false := (hb_w2.frozen (by first | assumption | (simp; done) | (simp; omega))).trans (by first | assumption | (simp; done) | (simp [go_sem]; done) | (simp [*]; done))
  have c_w2_2_3 : w2.cell? ⟨w.heap.size + 1 + 1, 3, none⟩ = some (.int .i64 0) := (hb_w2.cell (by first | assumption | (simp; done) | (simp; omega))).trans (by first | assumption | (simp; done) | (simp [go_sem]; done) | (simp [*]; done) | ((repeat rw [World.cell?_alloc_lt _ _ _ (by first | (simp; done) | (simp; omega) | omega)]); first | assumption | (simp; done)))
  have f_w2_2_3 : w2.frozen? ⟨w.heap.size + 1 + 1, 3, none⟩ = false := (hb_w2.frozen (by first | assumption | (simp; done) | (simp; omega))).trans (by first | assumption | (simp; done) | (simp [go_sem]; done) | (simp [*]; done))
  clear c_w1_0_0 c_w1_0_1 c_w1_1_0 c_w1_1_1 c_w1_2_0 f_w1_2_0 c_w1_2_1 f_w1_2_1 c_w1_2_2 f_w1_2_2 c_w1_2_3 f_w1_2_3 z_w1_0 z_w1_1 z_w1_2 B_w1 hb_w2
  go_wp2_with fail
  refine bodyPost_ret (v := .tuple #[.agg #[.int .i64 8, .int .i64 0, .int .i64 (hn), .int .i64 2], .int .i64 0]) (by simp [results, Try.results17, go_sem, hm, c_w2_2_0, c_w2_2_1, c_w2_2_2, c_w2_2_3, z_w2_2]) rfl ⟨rfl, ?_⟩
  have hz := B_w2.size
  go_grown
set_option maxHeartbeats 1000000 in
theorem jp_12gt (hn : Int) (a1 : 1 ≤ hn) (a2 : hn ≤ 4294967295) (dn : Int) (b1 : 1 ≤ dn) (b2 : dn ≤ 4294967295) (hlt : dn < hn) (w : World) : Calls Try.prog 17 #[.agg #[.int .i64 1, .int .i64 (hn)], .agg #[.int .i64 2, .int .i64 (dn)]] w fun r w' => r = .returned (.tuple #[.agg #[.int .i64 8, .int .i64 0, .int .i64 (hn), .int .i64 2], .int .i64 0]) ∧ Below w.heap.size w w' := by
  have t1 := transfer_any 1 (hn)
  have t2 := transfer_any 2 (dn)
  rw [show mvOk 1 (hn) = true by unfold mvOk; simp <;> omega] at t1
  rw [show mvOk 2 (dn) = true by unfold mvOk; simp <;> omega] at t2
  have H1 := Lib.hid t1
  have H2 := Lib.hid t2
  have hm : min (hn : Int) (dn) = dn := by omega
  clear t1 t2
  go_enter Try.func17, Try.ntmps17
  go_wp2_with fail
  refine (H1.out _).mono ?_
  rintro r_w1 w1 ⟨rfl, hb_w1⟩
  have B_w1 : Below w.heap.size w w1 := by first | exact hb_w1 | exact ((Below.refl _ _).alloc (Nat.le_refl _) _).trans (hb_w1.mono (by simp)) | exact (((Below.refl _ _).alloc (Nat.le_refl _) _).alloc (by simp) _).trans (hb_w1.mono (by simp; omega)) | exact Below.trans (by go_grown) (hb_w1.mono (by simp; omega))
  have z_w1_0 : w.heap.size < w1.heap.size := by have := hb_w1.size; first | omega | (simp at this; omega)
  have c_w1_0_0 : w1.cell? ⟨w.heap.size, 0, none⟩ = some (.int .i64 1) := (hb_w1.cell (by first | assumption | (simp; done) | (simp; omega))).trans (by first | assumption | (simp; done) | (simp [go_sem]; done) | (simp [*]; done) | ((repeat rw [World.cell?_alloc_lt _ _ _ (by first | (simp; done) | (simp; omega) | omega)]); first | assumption | (simp; done)))
  have c_w1_0_1 : w1.cell? ⟨w.heap.size, 1, none⟩ = some (.int .i64 (hn)) := (hb_w1.cell (by first | assumption | (simp; done) | (simp; omega))).trans (by first | assumption | (simp; done) | (simp [go_sem]; done) | (simp [*]; done) | ((repeat rw [World.cell?_alloc_lt _ _ _ (by first | (simp; done) | (simp; omega) | omega)]); first | assumption | (simp; done)))
  have z_w1_1 : w.heap.size + 1 < w1.heap.size := by have := hb_w1.size; first | omega | (simp at this; omega)
  have c_w1_1_0 : w1.cell? ⟨w.heap.size + 1, 0, none⟩ = some (.int .i64 2) := (hb_w1.cell (by first | assumption | (simp; done) | (simp; omega))).trans (by first | assumption | (simp; done) | (simp [go_sem]; done) | (simp [*]; done) | ((repeat rw [World.cell?_alloc_lt _ _ _ (by first | (simp; done) | (simp; omega) | omega)]); first | assumption | (simp; done)))
  have c_w1_1_1 : w1.cell? ⟨w.heap.size + 1, 1, none⟩ = some (.int .i64 (dn)) := (hb_w1.cell (by first | assumption | (simp; done) | (simp; omega))).trans (by first | assumption | (simp; done) | (simp [go_sem]; done) | (simp [*]; done) | ((repeat rw [World.cell?_alloc_lt _ _ _ (by first | (simp; done) | (simp; omega) | omega)]); first | assumption | (simp; done)))
  have z_w1_2 : w.heap.size + 1 + 1 < w1.heap.size := by have := hb_w1.size; first | omega | (simp at this; omega)
  have c_w1_2_0 : w1.cell? ⟨w.heap.size + 1 + 1, 0, none⟩ = some (.int .i64 0) := (hb_w1.cell (by first | assumption | (simp; done) | (simp; omega))).trans (by first | assumption | (simp; done) | (simp [go_sem]; done) | (simp [*]; done) | ((repeat rw [World.cell?_alloc_lt _ _ _ (by first | (simp; done) | (simp; omega) | omega)]); first | assumption | (simp; done)))
  have f_w1_2_0 : w1.frozen? ⟨w.heap.size + 1 + 1, 0, none⟩ = false := (hb_w1.frozen (by first | assumption | (simp; done) | (simp; omega))).trans (by first | assumption | (simp; done) | (simp [go_sem]; done) | (simp [*]; done))
  have c_w1_2_1 : w1.cell? ⟨w.heap.size + 1 + 1, 1, none⟩ = some (.int .i64 0) := (hb_w1.cell (by first | assumption | (simp; done) | (simp; omega))).trans (by first | assumption | (simp; done) | (simp [go_sem]; done) | (simp [*]; done) | ((repeat rw [World.cell?_alloc_lt _ _ _ (by first | (simp; done) | (simp; omega) | omega)]); first | assumption | (simp; done)))
  have f_w1_2_1 : w1.frozen? ⟨w.heap.size + 1 + 1, 1, none⟩ = false := (hb_w1.frozen (by first | assumption | (simp; done) | (simp; omega))).trans (by first | assumption | (simp; done) | (simp [go_sem]; done) | (simp [*]; done))
  have c_w1_2_2 : w1.cell? ⟨w.heap.size + 1 + 1, 2, none⟩ = some (.int .i64 0) := (hb_w1.cell (by first | assumption | (simp; done) | (simp; omega))).trans (by first | assumption | (simp; done) | (simp [go_sem]; done) | (simp [*]; done) | ((repeat rw [World.cell?_alloc_lt _ _ _ (by first | (simp; done) | (simp; omega) | omega)]); first | assumption | (simp; done)))
  have f_w1_2_2 : w1.frozen? ⟨w.heap.size + 1 + 1, 2, none⟩ = false := (hb_w1.frozen (by first | assumption | (simp; done) | (simp; omega))).trans (by first | assumption | (simp; done) | (simp [go_sem]; done) | (simp [*]; done))
  have c_w1_2_3 : w1.cell? ⟨w.heap.size + 1 + 1, 3, none⟩ = some (.int .i64 0) := (hb_w1.cell (by first | assumption | (simp; done) | (simp; omega))).trans (by first | assumption | (simp; done) | (simp [go_sem]; done) | (simp [*]; done) | ((repeat rw [World.cell?_alloc_lt _ _ _ (by first | (simp; done) | (simp; omega) | omega)]); first | assumption | (simp; done)))
  have f_w1_2_3 : w1.frozen? ⟨w.heap.size + 1 + 1, 3, none⟩ = false := (hb_w1.frozen (by first | assumption | (simp; done) | (simp; omega))).trans (by first | assumption | (simp; done) | (simp [go_sem]; done) | (simp [*]; done))
  clear hb_w1
  go_wp2_with fail
  refine (H2.out _).mono ?_
  rintro r_w2 w2 ⟨rfl, hb_w2⟩
  have B_w2 : Below w.heap.size w w2 := by first | exact B_w1.trans (hb_w2.mono B_w1.size) | exact (B_w1.alloc B_w1.size _).trans (hb_w2.mono (by have := B_w1.size; simp; omega)) | exact ((B_w1.alloc B_w1.size _).alloc (by have := B_w1.size; simp; omega) _).trans (hb_w2.mono (by have := B_w1.size; simp; omega)) | (have := B_w1.size; exact Below.trans (by go_grown) (hb_w2.mono (by simp; omega)))
  have z_w2_0 : w.heap.size < w2.heap.size := by have := hb_w2.size; first | omega | (simp at this; omega)
  have c_w2_0_0 : w2.cell? ⟨w.heap.size, 0, none⟩ = some (.int .i64 1) := (hb_w2.cell (by first | assumption | (simp; done) | (simp; omega))).trans (by first | assumption | (simp; done) | (simp [go_sem]; done) | (simp [*]; done) | ((repeat rw [World.cell?_alloc_lt _ _ _ (by first | (simp; done) | (simp; omega) | omega)]); first | assumption | (simp; done)))
  have c_w2_0_1 : w2.cell? ⟨w.heap.size, 1, none⟩ = some (.int .i64 (hn)) := (hb_w2.cell (by first | assumption | (simp; done) | (simp; omega))).trans (by first | assumption | (simp; done) | (simp [go_sem]; done) | (simp [*]; done) | ((repeat rw [World.cell?_alloc_lt _ _ _ (by first | (simp; done) | (simp; omega) | omega)]); first | assumption | (simp; done)))
  have z_w2_1 : w.heap.size + 1 < w2.heap.size := by have := hb_w2.size; first | omega | (simp at this; omega)
  have c_w2_1_0 : w2.cell? ⟨w.heap.size + 1, 0, none⟩ = some (.int .i64 2) := (hb_w2.cell (by first | assumption | (simp; done) | (simp; omega))).trans (by first | assumption | (simp; done) | (simp [go_sem]; done) | (simp [*]; done) | ((repeat rw [World.cell?_alloc_lt _ _ _ (by first | (simp; done) | (simp; omega) | omega)]); first | assumption | (simp; done)))
  have c_w2_1_1 : w2.cell? ⟨w.heap.size + 1, 1, none⟩ = some (.int .i64 (dn)) := (hb_w2.cell (by first | assumption | (simp; done) | (simp; omega))).trans (by first | assumption | (simp; done) | (simp [go_sem]; done) | (simp [*]; done) | ((repeat rw [World.cell?_alloc_lt _ _ _ (by first | (simp; done) | (simp; omega) | omega)]); first | assumption | (simp; done)))
  have z_w2_2 : w.heap.size + 1 + 1 < w2.heap.size := by have := hb_w2.size; first | omega | (simp at this; omega)
  have c_w2_2_0 : w2.cell? ⟨w.heap.size + 1 + 1, 0, none⟩ = some (.int .i64 0) := (hb_w2.cell (by first | assumption | (simp; done) | (simp; omega))).trans (by first | assumption | (simp; done) | (simp [go_sem]; done) | (simp [*]; done) | ((repeat rw [World.cell?_alloc_lt _ _ _ (by first | (simp; done) | (simp; omega) | omega)]); first | assumption | (simp; done)))
  have f_w2_2_0 : w2.frozen? ⟨w.heap.size + 1 + 1, 0, none⟩ = false := (hb_w2.frozen (by first | assumption | (simp; done) | (simp; omega))).trans (by first | assumption | (simp; done) | (simp [go_sem]; done) | (simp [*]; done))
  have c_w2_2_1 : w2.cell? ⟨w.heap.size + 1 + 1, 1, none⟩ = some (.int .i64 0) := (hb_w2.cell (by first | assumption | (simp; done) | (simp; omega))).trans (by first | assumption | (simp; done) | (simp [go_sem]; done) | (simp [*]; done) | ((repeat rw [World.cell?_alloc_lt _ _ _ (by first | (simp; done) | (simp; omega) | omega)]); first | assumption | (simp; done)))
  have f_w2_2_1 : w2.frozen? ⟨w.heap.size + 1 + 1, 1, none⟩ = false := (hb_w2.frozen (by first | assumption | (simp; done) | (simp; omega))).trans (by first | assumption | (simp; done) | (simp [go_sem]; done) | (simp [*]; done))
  have c_w2_2_2 : w2.cell? ⟨w.heap.size + 1 + 1, 2, none⟩ = some (.int .i64 0) := (hb_w2.cell (by first | assumption | (simp; done) | (simp; omega))).trans (by first | assumption | (simp; done) | (simp [go_sem]; done) | (simp [*]; done) | ((repeat rw [World.cell?_alloc_lt _ _ _ (by first | (simp; done) | (simp; omega) | omega)]); first | assumption | (simp; done)))
  have f_w2_2_2 : w2.frozen? ⟨w.heap.size + 1 + 1, 2, none⟩ = false := (hb_w2.frozen (by first | assumption | (simp; done) | (simp; omega))).trans (by first | assumption | (simp; done) | (simp [go_sem]; done) | (simp [*]; done))
  have c_w2_2_3 : w2.cell? ⟨w.heap.size + 1 + 1, 3, none⟩ = some (.int .i64 0) := (hb_w2.cell (by first | assumption | (simp; done) | (simp; omega))).trans (by first | assumption | (simp; done) | (simp [go_sem]; done) | (simp [*]; done) | ((repeat rw [World.cell?_alloc_lt _ _ _ (by first | (simp; done) | (simp; omega) | omega)]); first | assumption | (simp; done)))
  have f_w2_2_3 : w2.frozen? ⟨w.heap.size + 1 + 1, 3, none⟩ = false := (hb_w2.frozen (by first | assumption | (simp; done) | (simp; omega))).trans (by first | assumption | (simp; done) | (simp [go_sem]; done) | (simp [*]; done))
  clear c_w1_0_0 c_w1_0_1 c_w1_1_0 c_w1_1_1 c_w1_2_0 f_w1_2_0 c_w1_2_1 f_w1_2_1 c_w1_2_2 f_w1_2_2 c_w1_2_3 f_w1_2_3 z_w1_0 z_w1_1 z_w1_2 B_w1 hb_w2
  go_wp2_with fail
  refine bodyPost_ret (v := .tuple #[.agg #[.int .i64 8, .int .i64 0, .int .i64 (hn), .int .i64 2], .int .i64 0]) (by simp [results, Try.results17, go_sem, hm, c_w2_2_0, c_w2_2_1, c_w2_2_2, c_w2_2_3, z_w2_2]) rfl ⟨rfl, ?_⟩
  have hz := B_w2.size
  go_grown
set_option maxHeartbeats 1000000 in
theorem jp_20gt (hn : Int) (a1 : 1 ≤ hn) (a2 : hn ≤ 4294967295) (w : World) : Calls Try.prog 17 #[.agg #[.int .i64 2, .int .i64 (hn)], .agg #[.int .i64 0, .int .i64 (0)]] w fun r w' => r = .returned (.tuple #[.agg #[.int .i64 9, .int .i64 (0), .int .i64 (hn), .int .i64 0], .int .i64 0]) ∧ Below w.heap.size w w' := by
  have t1 := transfer_any 2 (hn)
  have t2 := transfer_any 0 (0)
  rw [show mvOk 2 (hn) = true by unfold mvOk; simp <;> omega] at t1
  rw [show mvOk 0 (0) = true by unfold mvOk; simp <;> omega] at t2
  have H1 := Lib.hid t1
  have H2 := Lib.hid t2
  have hm : min (hn : Int) (0) = 0 := by omega
  clear t1 t2
  go_enter Try.func17, Try.ntmps17
  go_wp2_with fail
  refine (H1.out _).mono ?_
  rintro r_w1 w1 ⟨rfl, hb_w1⟩
  have B_w1 : Below w.heap.size w w1 := by first | exact hb_w1 | exact ((Below.refl _ _).alloc (Nat.le_refl _) _).trans (hb_w1.mono (by simp)) | exact (((Below.refl _ _).alloc (Nat.le_refl _) _).alloc (by simp) _).trans (hb_w1.mono (by simp; omega)) | exact Below.trans (by go_grown) (hb_w1.mono (by simp; omega))
  have z_w1_0 : w.heap.size < w1.heap.size := by have := hb_w1.size; first | omega | (simp at this; omega)
  have c_w1_0_0 : w1.cell? ⟨w.heap.size, 0, none⟩ = some (.int .i64 2) := (hb_w1.cell (by first | assumption | (simp; done) | (simp; omega))).trans (by first | assumption | (simp; done) | (simp [go_sem]; done) | (simp [*]; done) | ((repeat rw [World.cell?_alloc_lt _ _ _ (by first | (simp; done) | (simp; omega) | omega)]); first | assumption | (simp; done)))
  have c_w1_0_1 : w1.cell? ⟨w.heap.size, 1, none⟩ = some (.int .i64 (hn)) := (hb_w1.cell (by first | assumption | (simp; done) | (simp; omega))).trans (by first | assumption | (simp; done) | (simp [go_sem]; done) | (simp [*]; done) | ((repeat rw [World.cell?_alloc_lt _ _ _ (by first | (simp; done) | (simp; omega) | omega)]); first | assumption | (simp; done)))
  have z_w1_1 : w.heap.size + 1 < w1.heap.size := by have := hb_w1.size; first | omega | (simp at this; omega)
  have c_w1_1_0 : w1.cell? ⟨w.heap.size + 1, 0, none⟩ = some (.int .i64 0) := (hb_w1.cell (by first | assumption | (simp; done) | (simp; omega))).trans (by first | assumption | (simp; done) | (simp [go_sem]; done) | (simp [*]; done) | ((repeat rw [World.cell?_alloc_lt _ _ _ (by first | (simp; done) | (simp; omega) | omega)]); first | assumption | (simp; done)))
  have c_w1_1_1 : w1.cell? ⟨w.heap.size + 1, 1, none⟩ = some (.int .i64 (0)) := (hb_w1.cell (by first | assumption | (simp; done) | (simp; omega))).trans (by first | assumption | (simp; done) | (simp [go_sem]; done) | (simp [*]; done) | ((repeat rw [World.cell?_alloc_lt _ _ _ (by first | (simp; done) | (simp; omega) | omega)]); first | assumption | (simp; done)))
  have z_w1_2 : w.heap.size + 1 + 1 < w1.heap.size := by have := hb_w1.size; first | omega | (simp at this; omega)
  have c_w1_2_0 : w1.cell? ⟨w.heap.size + 1 + 1, 0, none⟩ = some (.int .i64 0) := (hb_w1.cell (by first | assumption | (simp; done) | (simp; omega))).trans (by first | assumption | (simp; done) | (simp [go_sem]; done) | (simp [*]; done) | ((repeat rw [World.cell?_alloc_lt _ _ _ (by first | (simp; done) | (simp; omega) | omega)]); first | assumption | (simp; done)))
  have f_w1_2_0 : w1.frozen? ⟨w.heap.size + 1 + 1, 0, none⟩ = false := (hb_w1.frozen (by first | assumption | (simp; done) | (simp; omega))).trans (by first | assumption | (simp; done) | (simp [go_sem]; done) | (simp [*]; done))
  have c_w1_2_1 : w1.cell? ⟨w.heap.size + 1 + 1, 1, none⟩ = some (.int .i64 0) := (hb_w1.cell (by first | assumption | (simp; done) | (simp; omega))).trans (by first | assumption | (simp; done) | (simp [go_sem]; done) | (simp [*]; done) | ((repeat rw [World.cell?_alloc_lt _ _ _ (by first | (simp; done) | (simp; omega) | omega)]); first | assumption | (simp; done)))
  have f_w1_2_1 : w1.frozen? ⟨w.heap.size + 1 + 1, 1, none⟩ = false := (hb_w1.frozen (by first | assumption | (simp; done) | (simp; omega))).trans (by first | assumption | (simp; done) | (simp [go_sem]; done) | (simp [*]; done))
  have c_w1_2_2 : w1.cell? ⟨w.heap.size + 1 + 1, 2, none⟩ = some (.int .i64 0) := (hb_w1.cell (by first | assumption | (simp; done) | (simp; omega))).trans (by first | assumption | (simp; done) | (simp [go_sem]; done) | (simp [*]; done) | ((repeat rw [World.cell?_alloc_lt _ _ _ (by first | (simp; done) | (simp; omega) | omega)]); first | assumption | (simp; done)))
  have f_w1_2_2 : w1.frozen? ⟨w.heap.size + 1 + 1, 2, none⟩ = false := (hb_w1.frozen (by first | assumption | (simp; done) | (simp; omega))).trans (by first | assumption | (simp; done) | (simp [go_sem]; done) | (simp [*]; done))
  have c_w1_2_3 : w1.cell? ⟨w.heap.size + 1 + 1, 3, none⟩ = some (.int .i64 0) := (hb_w1.cell (by first | assumption | (simp; done) | (simp; omega))).trans (by first | assumption | (simp; done) | (simp [go_sem]; done) | (simp [*]; done) | ((repeat rw [World.cell?_alloc_lt _ _ _ (by first | (simp; done) | (simp; omega) | omega)]); first | assumption | (simp; done)))
  have f_w1_2_3 : w1.frozen? ⟨w.heap.size + 1 + 1, 3, none⟩ = false := (hb_w1.frozen (by first | assumption | (simp; done) | (simp; omega))).trans (by first | assumption | (simp; done) | (simp [go_sem]; done) | (simp [*]; done))
  clear hb_w1
  go_wp2_with fail
  refine (H2.out _).mono ?_
  rintro r_w2 w2 ⟨rfl, hb_w2⟩
  have B_w2 : Below w.heap.size w w2 := by first | exact B_w1.trans (hb_w2.mono B_w1.size) | exact (B_w1.alloc B_w1.size _).trans (hb_w2.mono (by have := B_w1.size; simp; omega)) | exact ((B_w1.alloc B_w1.size _).alloc (by have := B_w1.size; simp; omega) _).trans (hb_w2.mono (by have := B_w1.size; simp; omega)) | (have := B_w1.size; exact Below.trans (by go_grown) (hb_w2.mono (by simp; omega)))
  have z_w2_0 : w.heap.size < w2.heap.size := by have := hb_w2.size; first | omega | (simp at this; omega)
  have c_w2_0_0 : w2.cell? ⟨w.heap.size, 0, none⟩ = some (.int .i64 2) := (hb_w2.cell (by first | assumption | (simp; done) | (simp; omega))).trans (by first | assumption | (simp; done) | (simp [go_sem]; done) | (simp [*]; done) | ((repeat rw [World.cell?_alloc_lt _ _ _ (by first | (simp; done) | (simp; omega) | omega)]); first | assumption | (simp; done)))
  have c_w2_0_1 : w2.cell? ⟨w.heap.size, 1, none⟩ = some (.int .i64 (hn)) := (hb_w2.cell (by first | assumption | (simp; done) | (simp; omega))).trans (by first | assumption | (simp; done) | (simp [go_sem]; done) | (simp [*]; done) | ((repeat rw [World.cell?_alloc_lt _ _ _ (by first | (simp; done) | (simp; omega) | omega)]); first | assumption | (simp; done)))
  have z_w2_1 : w.heap.size + 1 < w2.heap.size := by have := hb_w2.size; first | omega | (simp at this; omega)
  have c_w2_1_0 : w2.cell? ⟨w.heap.size + 1, 0, none⟩ = some (.int .i64 0) := (hb_w2.cell (by first | assumption | (simp; done) | (simp; omega))).trans (by first | assumption | (simp; done) | (simp [go_sem]; done) | (simp [*]; done) | ((repeat rw [World.cell?_alloc_lt _ _ _ (by first | (simp; done) | (simp; omega) | omega)]); first | assumption | (simp; done)))
  have c_w2_1_1 : w2.cell? ⟨w.heap.size + 1, 1, none⟩ = some (.int .i64 (0)) := (hb_w2.cell (by first | assumption | (simp; done) | (simp; omega))).trans (by first | assumption | (simp; done) | (simp [go_sem]; done) | (simp [*]; done) | ((repeat rw [World.cell?_alloc_lt _ _ _ (by first | (simp; done) | (simp; omega) | omega)]); first | assumption | (simp; done)))
  have z_w2_2 : w.heap.size + 1 + 1 < w2.heap.size := by have := hb_w2.size; first | omega | (simp at this; omega)
  have c_w2_2_0 : w2.cell? ⟨w.heap.size + 1 + 1, 0, none⟩ = some (.int .i64 0) := (hb_w2.cell (by first | assumption | (simp; done) | (simp; omega))).trans (by first | assumption | (simp; done) | (simp [go_sem]; done) | (simp [*]; done) | ((repeat rw [World.cell?_alloc_lt _ _ _ (by first | (simp; done) | (simp; omega) | omega)]); first | assumption | (simp; done)))
  have f_w2_2_0 : w2.frozen? ⟨w.heap.size + 1 + 1, 0, none⟩ = false := (hb_w2.frozen (by first | assumption | (simp; done) | (simp; omega))).trans (by first | assumption | (simp; done) | (simp [go_sem]; done) | (simp [*]; done))
  have c_w2_2_1 : w2.cell? ⟨w.heap.size + 1 + 1, 1, none⟩ = some (.int .i64 0) := (hb_w2.cell (by first | assumption | (simp; done) | (simp; omega))).trans (by first | assumption | (simp; done) | (simp [go_sem]; done) | (simp [*]; done) | ((repeat rw [World.cell?_alloc_lt _ _ _ (by first | (simp; done) | (simp; omega) | omega)]); first | assumption | (simp; done)))
  have f_w2_2_1 : w2.frozen? ⟨w.heap.size + 1 + 1, 1, none⟩ = false := (hb_w2.frozen (by first | assumption | (simp; done) | (simp; omega))).trans (by first | assumption | (simp; done) | (simp [go_sem]; done) | (simp [*]; done))
  have c_w2_2_2 : w2.cell? ⟨w.heap.size + 1 + 1, 2, none⟩ = some (.int .i64 0) := (hb_w2.cell (by first | assumption | (simp; done) | (simp; omega))).trans (by first | assumption | (simp; done) | (simp [go_sem]; done) | (simp [*]; done) | ((repeat rw [World.cell?_alloc_lt _ _ _ (by first | (simp; done) | (simp; omega) | omega)]); first | assumption | (simp; done)))
  have f_w2_2_2 : w2.frozen? ⟨w.heap.size + 1 + 1, 2, none⟩ = false := (hb_w2.frozen (by first | assumption | (simp; done) | (simp; omega))).trans (by first | assumption | (simp; done) | (simp [go_sem]; done) | (simp [*]; done))
  have c_w2_2_3 : w2.cell? ⟨w.heap.size + 1 + 1, 3, none⟩ = some (.int .i64 0) := (hb_w2.cell (by first | assumption | (simp; done) | (simp; omega))).trans (by first | assumption | (simp; done) | (simp [go_sem]; done) | (simp [*]; done) | ((repeat rw [World.cell?_alloc_lt _ _ _ (by first | (simp; done) | (simp; omega) | omega)]); first | assumption | (simp; done)))
  have f_w2_2_3 : w2.frozen? ⟨w.heap.size + 1 + 1, 3, none⟩ = false := (hb_w2.frozen (by first | assumption | (simp; done) | (simp; omega))).trans (by first | assumption | (simp; done) | (simp [go_sem]; done) | (simp [*]; done))
  clear c_w1_0_0 c_w1_0_1 c_w1_1_0 c_w1_1_1 c_w1_2_0 f_w1_2_0 c_w1_2_1 f_w1_2_1 c_w1_2_2 f_w1_2_2 c_w1_2_3 f_w1_2_3 z_w1_0 z_w1_1 z_w1_2 B_w1 hb_w2
  go_wp2_with fail
  refine bodyPost_ret (v := .tuple #[.agg #[.int .i64 9, .int .i64 (0), .int .i64 (hn), .int .i64 0], .int .i64 0]) (by simp [results, Try.results17, go_sem, hm, c_w2_2_0, c_w2_2_1, c_w2_2_2, c_w2_2_3, z_w2_2]) rfl ⟨rfl, ?_⟩
  have hz := B_w2.size
  go_grown
set_option maxHeartbeats 1000000 in
theorem jp_21lt (hn : Int) (a1 : 1 ≤ hn) (a2 : hn ≤ 4294967295) (dn : Int) (b1 : 1 ≤ dn) (b2 : dn ≤ 4294967295) (hlt : hn < dn) (w : World) : Calls Try.prog 17 #[.agg #[.int .i64 2, .int .i64 (hn)], .agg #[.int .i64 1, .int .i64 (dn)]] w fun r w' => r = .returned (.tuple #[.agg #[.int .i64 10, .int .i64 0, .int .i64 (hn), .int .i64 2], .int .i64 0]) ∧ Below w.heap.size w w' := by
  have t1 := transfer_any 2 (hn)
  have t2 := transfer_any 1 (dn)
  rw [show mvOk 2 (hn) = true by unfold mvOk; simp <;> omega] at t1
  rw [show mvOk 1 (dn) = true by unfold mvOk; simp <;> omega] at t2
  have H1 := Lib.hid t1
  have H2 := Lib.hid t2
  have hm : min (hn : Int) (dn) = hn := by omega
  clear t1 t2
  go_enter Try.func17, Try.ntmps17
  go_wp2_with fail
  refine (H1.out _).mono ?_
  rintro r_w1 w1 ⟨rfl, hb_w1⟩
  have B_w1 : Below w.heap.size w w1 := by first | exact hb_w1 | exact ((Below.refl _ _).alloc (Nat.le_refl _) _).trans (hb_w1.mono (by simp)) | exact (((Below.refl _ _).alloc (Nat.le_refl _) _).alloc (by simp) _).trans (hb_w1.mono (by simp; omega)) | exact Below.trans (by go_grown) (hb_w1.mono (by simp; omega))
  have z_w1_0 : w.heap.size < w1.heap.size := by have := hb_w1.size; first | omega | (simp at this; omega)
  have c_w1_0_0 : w1.cell? ⟨w.heap.size, 0, none⟩ = some (.int .i64 2) := (hb_w1.cell (by first | assumption | (simp; done) | (simp; omega))).trans (by first | assumption | (simp; done) | (simp [go_sem]; done) | (simp [*]; done) | ((repeat rw [World.cell?_alloc_lt _ _ _ (by first | (simp; done) | (simp; omega) | omega)]); first | assumption | (simp; done)))
  have c_w1_0_1 : w1.cell? ⟨w.heap.size, 1, none⟩ = some (.int .i64 (hn)) := (hb_w1.cell (by first | assumption | (simp; done) | (simp; omega))).trans (by first | assumption | (simp; done) | (simp [go_sem]; done) | (simp [*]; done) | ((repeat rw [World.cell?_alloc_lt _ _ _ (by first | (simp; done) | (simp; omega) | omega)]); first | assumption | (simp; done)))
  have z_w1_1 : w.heap.size + 1 < w1.heap.size := by have := hb_w1.size; first | omega | (simp at this; omega)
  have c_w1_1_0 : w1.cell? ⟨w.heap.size + 1, 0, none⟩ = some (.int .i64 1) := (hb_w1.cell (by first | assumption | (simp; done) | (simp; omega))).trans (by first | assumption | (simp; done) | (simp [go_sem]; done) | (simp [*]; done) | ((repeat rw [World.cell?_alloc_lt _ _ _ (by first | (simp; done) | (simp; omega) | omega)]); first | assumption | (simp; done)))
  have c_w1_1_1 : w1.cell? ⟨w.heap.size + 1, 1, none⟩ = some (.int .i64 (dn)) := (hb_w1.cell (by first | assumption | (simp; done) | (simp; omega))).trans (by first | assumption | (simp; done) | (simp [go_sem]; done) | (simp [*]; done) | ((repeat rw [World.cell?_alloc_lt _ _ _ (by first | (simp; done) | (simp; omega) | omega)]); first | assumption | (simp; done)))
  have z_w1_2 : w.heap.size + 1 + 1 < w1.heap.size := by have := hb_w1.size; first | omega | (simp at this; omega)
  have c_w1_2_0 : w1.cell? ⟨w.heap.size + 1 + 1, 0, none⟩ = some (.int .i64 0) := (hb_w1.cell (by first | assumption | (simp; done) | (simp; omega))).trans (by first | assumption | (simp; done) | (simp [go_sem]; done) | (simp [*]; done) | ((repeat rw [World.cell?_alloc_lt _ _ _ (by first | (simp; done) | (simp; omega) | omega)]); first | assumption | (simp; done)))
  have f_w1_2_0 : w1.frozen? ⟨w.heap.size + 1 + 1, 0, none⟩ = false := (hb_w1.frozen (by first | assumption | (simp; done) | (simp; omega))).trans (by first | assumption | (simp; done) | (simp [go_sem]; done) | (simp [*]; done))
  have c_w1_2_1 : w1.cell? ⟨w.heap.size + 1 + 1, 1, none⟩ = some (.int .i64 0) := (hb_w1.cell (by first | assumption | (simp; done) | (simp; omega))).trans (by first | assumption | (simp; done) | (simp [go_sem]; done) | (simp [*]; done) | ((repeat rw [World.cell?_alloc_lt _ _ _ (by first | (simp; done) | (simp; omega) | omega)]); first | assumption | (simp; done)))
  have f_w1_2_1 : w1.frozen? ⟨w.heap.size + 1 + 1, 1, none⟩ = false := (hb_w1.frozen (by first | assumption | (simp; done) | (simp; omega))).trans (by first | assumption | (simp; done) | (simp [go_sem]; done) | (simp [*]; done))
  have c_w1_2_2 : w1.cell? ⟨w.heap.size + 1 + 1, 2, none⟩ = some (.int .i64 0) := (hb_w1.cell (by first | assumption | (simp; done) | (simp; omega))).trans (by first | assumption | (simp; done) | (simp [go_sem]; done) | (simp [*]; done) | ((repeat rw [World.cell?_alloc_lt _ _ _ (by first | (simp; done) | (simp; omega) | omega)]); first | assumption | (simp; done)))
  have f_w1_2_2 : w1.frozen? ⟨w.heap.size + 1 + 1, 2, none⟩ = false := (hb_w1.frozen (by first | assumption | (simp; done) | (simp; omega))).trans (by first | assumption | (simp; done) | (simp [go_sem]; done) | (simp [*]; done))
  have c_w1_2_3 : w1.cell? ⟨w.heap.size + 1 + 1, 3, none⟩ = some (.int .i64 0) := (hb_w1.cell (by first | assumption | (simp; done) | (simp; omega))).trans (by first | assumption | (simp; done) | (simp [go_sem]; done) | (simp [*]; done) | ((repeat rw [World.cell?_alloc_lt _ _ _ (by first | (simp; done) | (simp; omega) | omega)]); first | assumption | (simp; done)))
  have f_w1_2_3 : w1.frozen? ⟨w.heap.size + 1 + 1, 3, none⟩ = false := (hb_w1.frozen (by first | assumption | (simp; done) | (simp; omega))).trans (by first | assumption | (simp; done) | (simp [go_sem]; done) | (simp [*]; done))
  clear hb_w1
  go_wp2_with fail
  refine (H2.out _).mono ?_
  rintro r_w2 w2 ⟨rfl, hb_w2⟩
  have B_w2 : Below w.heap.size w w2 := by first | exact B_w1.trans (hb_w2.mono B_w1.size) | exact (B_w1.alloc B_w1.size _).trans (hb_w2.mono (by have := B_w1.size; simp; omega)) | exact ((B_w1.alloc B_w1.size _).alloc (by have := B_w1.size; simp; omega) _).trans (hb_w2.mono (by have := B_w1.size; simp; omega)) | (have := B_w1.size; exact Below.trans (by go_grown) (hb_w2.mono (by simp; omega)))
  have z_w2_0 : w.heap.size < w2.heap.size := by have := hb_w2.size; first | omega | (simp at this; omega)
  have c_w2_0_0 : w2.cell? ⟨w.heap.size, 0, none⟩ = some (.int .i64 2) := (hb_w2.cell (by first | assumption | (simp; done) | (simp; omega))).trans (by first | assumption | (simp; done) | (simp [go_sem]; done) | (simp [*]; done) | ((repeat rw [World.cell?_alloc_lt _ _ _ (by first | (simp; done) | (simp; omega) | omega)]); first | assumption | (simp; done)))
  have c_w2_0_1 : w2.cell? ⟨w.heap.size, 1, none⟩ = some (.int .i64 (hn)) := (hb_w2.cell (by first | assumption | (simp; done) | (simp; omega))).trans (by first | assumption | (simp; done) | (simp [go_sem]; done) | (simp [*]; done) | ((repeat rw [World.cell?_alloc_lt _ _ _ (by first | (simp; done) | (simp; omega) | omega)]); first | assumption | (simp; done)))
  have z_w2_1 : w.heap.size + 1 < w2.heap.size := by have := hb_w2.size; first | omega | (simp at this; omega)
  have c_w2_1_0 : w2.cell? ⟨w.heap.size + 1, 0, none⟩ = some (.int .i64 1) := (hb_w2.cell (by first | assumption | (simp; done) | (simp; omega))).trans (by first | assumption | (simp; done) | (simp [go_sem]; done) | (simp [*]; done) | ((repeat rw [World.cell?_alloc_lt _ _ _ (by first | (simp; done) | (simp; omega) | omega)]); first | assumption | (simp; done)))
  have c_w2_1_1 : w2.cell? ⟨w.heap.size + 1, 1, none⟩ = some (.int .i64 (dn)) := (hb_w2.cell (by first | assumption | (simp; done) | (simp; omega))).trans (by first | assumption | (simp; done) | (simp [go_sem]; done) | (simp [*]; done) | ((repeat rw [World.cell?_alloc_lt _ _ _ (by first | (simp; done) | (simp; omega) | omega)]); first | assumption | (simp; done)))
  have z_w2_2 : w.heap.size + 1 + 1 < w2.heap.size := by have := hb_w2.size; first | omega | (simp at this; omega)
  have c_w2_2_0 : w2.cell? ⟨w.heap.size + 1 + 1, 0, none⟩ = some (.int .i64 0) := (hb_w2.cell (by first | assumption | (simp; done) | (simp; omega))).trans (by first | assumption | (simp; done) | (simp [go_sem]; done) | (simp [*]; done) | ((repeat rw [World.cell?_alloc_lt _ _ _ (by first | (simp; done) | (simp; omega) | omega)]); first | assumption | (simp; done)))
  have f_w2_2_0 : w2.frozen? ⟨w.heap.size + 1 + 1, 0, none⟩ = false := (hb_w2.frozen (by first | assumption | (simp; done) | (simp; omega))).trans (by first | assumption | (simp; done) | (simp [go_sem]; done) | (simp [*]; done))
  have c_w2_2_1 : w2.cell? ⟨w.heap.size + 1 + 1, 1, none⟩ = some (.int .i64 0) := (hb_w2.cell (by first | assumption | (simp; done) | (simp; omega))).trans (by first | assumption | (simp; done) | (simp [go_sem]; done) | (simp [*]; done) | ((repeat rw [World.cell?_alloc_lt _ _ _ (by first | (simp; done) | (simp; omega) | omega)]); first | assumption | (simp; done)))
  have f_w2_2_1 : w2.frozen? ⟨w.heap.size + 1 + 1, 1, none⟩ = false := (hb_w2.frozen (by first | assumption | (simp; done) | (simp; omega))).trans (by first | assumption | (simp; done) | (simp [go_sem]; done) | (simp [*]; done))
  have c_w2_2_2 : w2.cell? ⟨w.heap.size + 1 + 1, 2, none⟩ = some (.int .i64 0) := (hb_w2.cell (by first | assumption | (simp; done) | (simp; omega))).trans (by first | assumption | (simp; done) | (simp [go_sem]; done) | (simp [*]; done) | ((repeat rw [World.cell?_alloc_lt _ _ _ (by first | (simp; done) | (simp; omega) | omega)]); first | assumption | (simp; done)))
  have f_w2_2_2 : w2.frozen? ⟨w.heap.size + 1 + 1, 2, none⟩ = false := (hb_w2.frozen (by first | assumption | (simp; done) | (simp; omega))).trans (by first | assumption | (simp; done) | (simp [go_sem]; done) | (simp [*]; done))
  have c_w2_2_3 : w2.cell? ⟨w.heap.size + 1 + 1, 3, none⟩ = some (.int .i64 0) := (hb_w2.cell (by first | assumption | (simp; done) | (simp; omega))).trans (by first | assumption | (simp; done) | (simp [go_sem]; done) | (simp [*]; done) | ((repeat rw [World.cell?_alloc_lt _ _ _ (by first | (simp; done) | (simp; omega) | omega)]); first | assumption | (simp; done)))
  have f_w2_2_3 : w2.frozen? ⟨w.heap.size + 1 + 1, 3, none⟩ = false := (hb_w2.frozen (by first | assumption | (simp; done) | (simp; omega))).trans (by first | assumption | (simp; done) | (simp [go_sem]; done) | (simp [*]; done))
  clear c_w1_0_0 c_w1_0_1 c_w1_1_0 c_w1_1_1 c_w1_2_0 f_w1_2_0 c_w1_2_1 f_w1_2_1 c_w1_2_2 f_w1_2_2 c_w1_2_3 f_w1_2_3 z_w1_0 z_w1_1 z_w1_2 B_w1 hb_w2
  go_wp2_with fail
  refine bodyPost_ret (v := .tuple #[.agg #[.int .i64 10, .int .i64 0, .int .i64 (hn), .int .i64 2], .int .i64 0]) (by simp [results, Try.results17, go_sem, hm, c_w2_2_0, c_w2_2_1, c_w2_2_2, c_w2_2_3, z_w2_2]) rfl ⟨rfl, ?_⟩
  have hz := B_w2.size
  go_grown
set_option maxHeartbeats 1000000 in
theorem jp_21eq (hn : Int) (a1 : 1 ≤ hn) (a2 : hn ≤ 4294967295) (w : World) : Calls Try.prog 17 #[.agg #[.int .i64 2, .int .i64 (hn)], .agg #[.int .i64 1, .int .i64 (hn)]] w fun r w' => r = .returned (.tuple #[.agg #[.int .i64 10, .int .i64 0, .int .i64 (hn), .int .i64 2], .int .i64 0]) ∧ Below w.heap.size w w' := by
  have t1 := transfer_any 2 (hn)
  have t2 := transfer_any 1 (hn)
  rw [show mvOk 2 (hn) = true by unfold mvOk; simp <;> omega] at t1
  rw [show mvOk 1 (hn) = true by unfold mvOk; simp <;> omega] at t2
  have H1 := Lib.hid t1
  have H2 := Lib.hid t2
  have hm : min (hn : Int) (hn) = hn := by omega
  clear t1 t2
  go_enter Try.func17, Try.ntmps17
  go_wp2_with fail
  refine (H1.out _).mono ?_
  rintro r_w1 w1 ⟨rfl, hb_w1⟩
  have B_w1 : Below w.heap.size w w1 := by first | exact hb_w1 | exact ((Below.refl _ _).alloc (Nat.le_refl _) _).trans (hb_w1.mono (by simp)) | exact (((Below.refl _ _).alloc (Nat.le_refl _) _).alloc (by simp) _).trans (hb_w1.mono (by simp; omega)) | exact Below.trans (by go_grown) (hb_w1.mono (by simp; omega))
  have z_w1_0 : w.heap.size < w1.heap.size := by have := hb_w1.size; first | omega | (simp at this; omega)
  have c_w1_0_0 : w1.cell? ⟨w.heap.size, 0, none⟩ = some (.int .i64 2) := (hb_w1.cell (by first | assumption | (simp; done) | (simp; omega))).trans (by first | assumption | (simp; done) | (simp [go_sem]; done) | (simp [*]; done) | ((repeat rw [World.cell?_alloc_lt _ _ _ (by first | (simp; done) | (simp; omega) | omega)]); first | assumption | (simp; done)))
  have c_w1_0_1 : w1.cell? ⟨w.heap.size, 1, none⟩ = some (.int .i64 (hn)) := (hb_w1.cell (by first | assumption | (simp; done) | (simp; omega))).trans (by first | assumption | (simp; done) | (simp [go_sem]; done) | (simp [*]; done) | ((repeat rw [World.cell?_alloc_lt _ _ _ (by first | (simp; done) | (simp; omega) | omega)]); first | assumption | (simp; done)))
  have z_w1_1 : w.heap.size + 1 < w1.heap.size := by have := hb_w1.size; first | omega | (simp at this; omega)
  have c_w1_1_0 : w1.cell? ⟨w.heap.size + 1, 0, none⟩ = some (.int .i64 1) := (hb_w1.cell (by first | assumption | (simp; done) | (simp; omega))).trans (by first | assumption | (simp; done) | (simp [go_sem]; done) | (simp [*]; done) | ((repeat rw [World.cell?_alloc_lt _ _ _ (by first | (simp; done) | (simp; omega) | omega)]); first | assumption | (simp; done)))
  have c_w1_1_1 : w1.cell? ⟨w.heap.size + 1, 1, none⟩ = some (.int .i64 (hn)) := (hb_w1.cell (by first | assumption | (simp; done) | (simp; omega))).trans (by first | assumption | (simp; done) | (simp [go_sem]; done) | (simp [*]; done) | ((repeat rw [World.cell?_alloc_lt _ _ _ (by first | (simp; done) | (simp; omega) | omega)]); first | assumption | (simp; done)))
  have z_w1_2 : w.heap.size + 1 + 1 < w1.heap.size := by have := hb_w1.size; first | omega | (simp at this; omega)
  have c_w1_2_0 : w1.cell? ⟨w.heap.size + 1 + 1, 0, none⟩ = some (.int .i64 0) := (hb_w1.cell (by first | assumption | (simp; done) | (simp; omega))).trans (by first | assumption | (simp; done) | (simp [go_sem]; done) | (simp [*]; done) | ((repeat rw [World.cell?_alloc_lt _ _ _ (by first | (simp; done) | (simp; omega) | omega)]); first | assumption | (simp; done)))
  have f_w1_2_0 : w1.frozen? ⟨w.heap.size + 1 + 1, 0, none⟩ = false := (hb_w1.frozen (by first | assumption | (simp; done) | (simp; omega))).trans (by first | assumption | (simp; done) | (simp [go_sem]; done) | (simp [*]; done))
  have c_w1_2_1 : w1.cell? ⟨w.heap.size + 1 + 1, 1, none⟩ = some (.int .i64 0) := (hb_w1.cell (by first | assumption | (simp; done) | (simp; omega))).trans (by first | assumption | (simp; done) | (simp [go_sem]; done) | (simp [*]; done) | ((repeat rw [World.cell?_alloc_lt _ _ _ (by first | (simp; done) | (simp; omega) | omega)]); first | assumption | (simp; done)))
  have f_w1_2_1 : w1.frozen? ⟨w.heap.size + 1 + 1, 1, none⟩ = false := (hb_w1.frozen (by first | assumption | (simp; done) | (simp; omega))).trans (by first | assumption | (simp; done) | (simp [go_sem]; done) | (simp [*]; done))
  have c_w1_2_2 : w1.cell? ⟨w.heap.size + 1 + 1, 2, none⟩ = some (.int .i64 0) := (hb_w1.cell (by first | assumption | (simp; done) | (simp; omega))).trans (by first | assumption | (simp; done) | (simp [go_sem]; done) | (simp [*]; done) | ((repeat rw [World.cell?_alloc_lt _ _ _ (by first | (simp; done) | (simp; omega) | omega)]); first | assumption | (simp; done)))
  have f_w1_2_2 : w1.frozen? ⟨w.heap.size + 1 + 1, 2, none⟩ = false := (hb_w1.frozen (by first | assumption | (simp; done) | (simp; omega))).trans (by first | assumption | (simp; done) | (simp [go_sem]; done) | (simp [*]; done))
  have c_w1_2_3 : w1.cell? ⟨w.heap.size + 1 + 1, 3, none⟩ = some (.int .i64 0) := (hb_w1.cell (by first | assumption | (simp; done) | (simp; omega))).trans (by first | assumption | (simp; done) | (simp [go_sem]; done) | (simp [*]; done) | ((repeat rw [World.cell?_alloc_lt _ _ _ (by first | (simp; done) | (simp; omega) | omega)]); first | assumption | (simp; done)))
  have f_w1_2_3 : w1.frozen? ⟨w.heap.size + 1 + 1, 3, none⟩ = false := (hb_w1.frozen (by first | assumption | (simp; done) | (simp; omega))).trans (by first | assumption | (simp; done) | (simp [go_sem]; done) | (simp [*]; done))
  clear hb_w1
  go_wp2_with fail
  refine (H2.out _).mono ?_
  rintro r_w2 w2 ⟨rfl, hb_w2⟩
  have B_w2 : Below w.heap.size w w2 := by first | exact B_w1.trans (hb_w2.mono B_w1.size) | exact (B_w1.alloc B_w1.size _).trans (hb_w2.mono (by have := B_w1.size; simp; omega)) | exact ((B_w1.alloc B_w1.size _).alloc (by have := B_w1.size; simp; omega) _).trans (hb_w2.mono (by have := B_w1.size; simp; omega)) | (have := B_w1.size; exact Below.trans (by go_grown) (hb_w2.mono (by simp; omega)))
  have z_w2_0 : w.heap.size < w2.heap.size := by have := hb_w2.size; first | omega | (simp at this; omega)
  have c_w2_0_0 : w2.cell? ⟨w.heap.size, 0, none⟩ = some (.int .i64 2) := (hb_w2.cell (by first | assumption | (simp; done) | (simp; omega))).trans (by first | assumption | (simp; done) | (simp [go_sem]; done) | (simp [*]; done) | ((repeat rw [World.cell?_alloc_lt _ _ _ (by first | (simp; done) | (simp; omega) | omega)]); first | assumption | (simp; done)))
  have c_w2_0_1 : w2.cell? ⟨w.heap.size, 1, none⟩ = some (.int .i64 (hn)) := (hb_w2.cell (by first | assumption | (simp; done) | (simp; omega))).trans (by first | assumption | (simp; done) | (simp [go_sem]; done) | (simp [*]; done) | ((repeat rw [World.cell?_alloc_lt _ _ _ (by first | (simp; done) | (simp; omega) | omega)]); first | assumption | (simp; done)))
  have z_w2_1 : w.heap.size + 1 < w2.heap.size := by have := hb_w2.size; first | omega | (simp at this; omega)
  have c_w2_1_0 : w2.cell? ⟨w.heap.size + 1, 0, none⟩ = some (.int .i64 1) := (hb_w2.cell (by first | assumption | (simp; done) | (simp; omega))).trans (by first | assumption | (simp; done) | (simp [go_sem]; done) | (simp [*]; done) | ((repeat rw [World.cell?_alloc_lt _ _ _ (by first | (simp; done) | (simp; omega) | omega)]); first | assumption | (simp; done)))
  have c_w2_1_1 : w2.cell? ⟨w.heap.size + 1, 1, none⟩ = some (.int .i64 (hn)) := (hb_w2.cell (by first | assumption | (simp; done) | (simp; omega))).trans (by first | assumption | (simp; done) | (simp [go_sem]; done) | (simp [*]; done) | ((repeat rw [World.cell?_alloc_lt _ _ _ (by first | (simp; done) | (simp; omega) | omega)]); first | assumption | (simp; done)))
  have z_w2_2 : w.heap.size + 1 + 1 < w2.heap.size := by have := hb_w2.size; first | omega | (simp at this; omega)
  have c_w2_2_0 : w2.cell? ⟨w.heap.size + 1 + 1, 0, none⟩ = some (.int .i64 0) := (hb_w2.cell (by first | assumption | (simp; done) | (simp; omega))).trans (by first | assumption | (simp; done) | (simp [go_sem]; done) | (simp [*]; done) | ((repeat rw [World.cell?_alloc_lt _ _ _ (by first | (simp; done) | (simp; omega) | omega)]); first | assumption | (simp; done)))
  have f_w2_2_0 : w2.frozen? ⟨w.heap.size + 1 + 1, 0, none⟩ = false := (hb_w2.frozen (by first | assumption | (simp; done) | (simp; omega))).trans (by first | assumption | (simp; done) | (simp [go_sem]; done) | (simp [*]; done))
  have c_w2_2_1 : w2.cell? ⟨w.heap.size + 1 + 1, 1, none⟩ = some (.int .i64 0) := (hb_w2.cell (by first | assumption | (simp; done) | (simp; omega))).trans (by first | assumption | (simp; done) | (simp [go_sem]; done) | (simp [*]; done) | ((repeat rw [World.cell?_alloc_lt _ _ _ (by first | (simp; done) | (simp; omega) | omega)]); first | assumption | (simp; done)))
  have f_w2_2_1 : w2.frozen? ⟨w.heap.size + 1 + 1, 1, none⟩ = false := (hb_w2.frozen (by first | assumption | (simp; done) | (simp; omega))).trans (by first | assumption | (simp; done) | (simp [go_sem]; done) | (simp [*]; done))
  have c_w2_2_2 : w2.cell? ⟨w.heap.size + 1 + 1, 2, none⟩ = some (.int .i64 0) := (hb_w2.cell (by first | assumption | (simp; done) | (simp; omega))).trans (by first | assumption | (simp; done) | (simp [go_sem]; done) | (simp [*]; done) | ((repeat rw [World.cell?_alloc_lt _ _ _ (by first | (simp; done) | (simp; omega) | omega)]); first | assumption | (simp; done)))
  have f_w2_2_2 : w2.frozen? ⟨w.heap.size + 1 + 1, 2, none⟩ = false := (hb_w2.frozen (by first | assumption | (simp; done) | (simp; omega))).trans (by first | assumption | (simp; done) | (simp [go_sem]; done) | (simp [*]; done))
  have c_w2_2_3 : w2.cell? ⟨w.heap.size + 1 + 1, 3, none⟩ = some (.int .i64 0) := (hb_w2.cell (by first | assumption | (simp; done) | (simp; omega))).trans (by first | assumption | (simp; done) | (simp [go_sem]; done) | (simp [*]; done) | ((repeat rw [World.cell?_alloc_lt _ _ _ (by first | (simp; done) | (simp; omega) | omega)]); first | assumption | (simp; done)))
  have f_w2_2_3 : w2.frozen? ⟨w.heap.size + 1 + 1, 3, none⟩ = false := (hb_w2.frozen (by first | assumption | (simp; done) | (simp; omega))).trans (by first | assumption | (simp; done) | (simp [go_sem]; done) | (simp [*]; done))
  clear c_w1_0_0 c_w1_0_1 c_w1_1_0 c_w1_1_1 c_w1_2_0 f_w1_2_0 c_w1_2_1 f_w1_2_1 c_w1_2_2 f_w1_2_2 c_w1_2_3 f_w1_2_3 z_w1_0 z_w1_1 z_w1_2 B_w1 hb_w2
  go_wp2_with fail
  refine bodyPost_ret (v := .tuple #[.agg #[.int .i64 10, .int .i64 0, .int .i64 (hn), .int .i64 2], .int .i64 0]) (by simp [results, Try.results17, go_sem, hm, c_w2_2_0, c_w2_2_1, c_w2_2_2, c_w2_2_3, z_w2_2]) rfl ⟨rfl, ?_⟩
  have hz := B_w2.size
  go_grown
set_option maxHeartbeats 1000000 in
theorem jp_21gt (hn : Int) (a1 : 1 ≤ hn) (a2 : hn ≤ 4294967295) (dn : Int) (b1 : 1 ≤ dn) (b2 : dn ≤ 4294967295) (hlt : dn < hn) (w : World) : Calls Try.prog 17 #[.agg #[.int .i64 2, .int .i64 (hn)], .agg #[.int .i64 1, .int .i64 (dn)]] w fun r w' => r = .returned (.tuple #[.agg #[.int .i64 10, .int .i64 0, .int .i64 (hn), .int .i64 2], .int .i64 0]) ∧ Below w.heap.size w w' := by
  have t1 := transfer_any 2 (hn)
  have t2 := transfer_any 1 (dn)
  rw [show mvOk 2 (hn) = true by unfold mvOk; simp <;> omega] at t1
  rw [show mvOk 1 (dn) = true by unfold mvOk; simp <;> omega] at t2
  have H1 := Lib.hid t1
  have H2 := Lib.hid t2
  have hm : min (hn : Int) (dn) = dn := by omega
  clear t1 t2
  go_enter Try.func17, Try.ntmps17
  go_wp2_with fail
  refine (H1.out _).mono ?_
  rintro r_w1 w1 ⟨rfl, hb_w1⟩
  have B_w1 : Below w.heap.size w w1 := by first | exact hb_w1 | exact ((Below.refl _ _).alloc (Nat.le_refl _) _).trans (hb_w1.mono (by simp)) | exact (((Below.refl _ _).alloc (Nat.le_refl _) _).alloc (by simp) _).trans (hb_w1.mono (by simp; omega)) | exact Below.trans (by go_grown) (hb_w1.mono (by simp; omega))
  have z_w1_0 : w.heap.size < w1.heap.size := by have := hb_w1.size; first | omega | (simp at this; omega)
  have c_w1_0_0 : w1.cell? ⟨w.heap.size, 0, none⟩ = some (.int .i64 2) := (hb_w1.cell (by first | assumption | (simp; done) | (simp; omega))).trans (by first | assumption | (simp; done) | (simp [go_sem]; done) | (simp [*]; done) | ((repeat rw [World.cell?_alloc_lt _ _ _ (by first | (simp; done) | (simp; omega) | omega)]); first | assumption | (simp; done)))
  have c_w1_0_1 : w1.cell? ⟨w.heap.size, 1, none⟩ = some (.int .i64 (hn)) := (hb_w1.cell (by first | assumption | (simp; done) | (simp; omega))).trans (by first | assumption | (simp; done) | (simp [go_sem]; done) | (simp [*]; done) | ((repeat rw [World.cell?_alloc_lt _ _ _ (by first | (simp; done) | (simp; omega) | omega)]); first | assumption | (simp; done)))
  have z_w1_1 : w.heap.size + 1 < w1.heap.size := by have := hb_w1.size; first | omega | (simp at this; omega)
  have c_w1_1_0 : w1.cell? ⟨w.heap.size + 1, 0, none⟩ = some (.int .i64 1) := (hb_w1.cell (by first | assumption | (simp; done) | (simp; omega))).trans (by first | assumption | (simp; done) | (simp [go_sem]; done) | (simp [*]; done) | ((repeat rw [World.cell?_alloc_lt _ _ _ (by first | (simp; done) | (simp; omega) | omega)]); first | assumption | (simp; done)))
  have c_w1_1_1 : w1.cell? ⟨w.heap.size + 1, 1, none⟩ = some (.int .i64 (dn)) := (hb_w1.cell (by first | assumption | (simp; done) | (simp; omega))).trans (by first | assumption | (simp; done) | (simp [go_sem]; done) | (simp [*]; done) | ((repeat rw [World.cell?_alloc_lt _ _ _ (by first | (simp; done) | (simp; omega) | omega)]); first | assumption | (simp; done)))
  have z_w1_2 : w.heap.size + 1 + 1 < w1.heap.size := by have := hb_w1.size; first | omega | (simp at this; omega)
  have c_w1_2_0 : w1.cell? ⟨w.heap.size + 1 + 1, 0, none⟩ = some (.int .i64 0) := (hb_w1.cell (by first | assumption | (simp; done) | (simp; omega))).trans (by first | assumption | (simp; done) | (simp [go_sem]; done) | (simp [*]; done) | ((repeat rw [World.cell?_alloc_lt _ _ _ (by first | (simp; done) | (simp; omega) | omega)]); first | assumption | (simp; done)))
  have f_w1_2_0 : w1.frozen? ⟨w.heap.size + 1 + 1, 0, none⟩ = false := (hb_w1.frozen (by first | assumption | (simp; done) | (simp; omega))).trans (by first | assumption | (simp; done) | (simp [go_sem]; done) | (simp [*]; done))
  have c_w1_2_1 : w1.cell? ⟨w.heap.size + 1 + 1, 1, none⟩ = some (.int .i64 0) := (hb_w1.cell (by first | assumption | (simp; done) | (simp; omega))).trans (by first | assumption | (simp; done) | (simp [go_sem]; done) | (simp [*]; done) | ((repeat rw [World.cell?_alloc_lt _ _ _ (by first | (simp; done) | (simp; omega) | omega)]); first | assumption | (simp; done)))
  have f_w1_2_1 : w1.frozen? ⟨w.heap.size + 1 + 1, 1, none⟩ = false := (hb_w1.frozen (by first | assumption | (simp; done) | (simp; omega))).trans (by first | assumption | (simp; done) | (simp [go_sem]; done) | (simp [*]; done))
  have c_w1_2_2 : w1.cell? ⟨w.heap.size + 1 + 1, 2, none⟩ = some (.int .i64 0) := (hb_w1.cell (by first | assumption | (simp; done) | (simp; omega))).trans (by first | assumption | (simp; done) | (simp [go_sem]; done) | (simp [*]; done) | ((repeat rw [World.cell?_alloc_lt _ _ _ (by first | (simp; done) | (simp; omega) | omega)]); first | assumption | (simp; done)))
  have f_w1_2_2 : w1.frozen? ⟨w.heap.size + 1 + 1, 2, none⟩ = false := (hb_w1.frozen (by first | assumption | (simp; done) | (simp; omega))).trans (by first | assumption | (simp; done) | (simp [go_sem]; done) | (simp [*]; done))
  have c_w1_2_3 : w1.cell? ⟨w.heap.size + 1 + 1, 3, none⟩ = some (.int .i64 0) := (hb_w1.cell (by first | assumption | (simp; done) | (simp; omega))).trans (by first | assumption | (simp; done) | (simp [go_sem]; done) | (simp [*]; done) | ((repeat rw [World.cell?_alloc_lt _ _ _ (by first | (simp; done) | (simp; omega) | omega)]); first | assumption | (simp; done)))
  have f_w1_2_3 : w1.frozen? ⟨w.heap.size + 1 + 1, 3, none⟩ = false := (hb_w1.frozen (by first | assumption | (simp; done) | (simp; omega))).trans (by first | assumption | (simp; done) | (simp [go_sem]; done) | (simp [*]; done))
  clear hb_w1
  go_wp2_with fail
  refine (H2.out _).mono ?_
  rintro r_w2 w2 ⟨rfl, hb_w2⟩
  have B_w2 : Below w.heap.size w w2 := by first | exact B_w1.trans (hb_w2.mono B_w1.size) | exact (B_w1.alloc B_w1.size _).trans (hb_w2.mono (by have := B_w1.size; simp; omega)) | exact ((B_w1.alloc B_w1.size _).alloc (by have := B_w1.size; simp; omega) _).trans (hb_w2.mono (by have := B_w1.size; simp; omega)) | (have := B_w1.size; exact Below.trans (by go_grown) (hb_w2.mono (by simp; omega)))
  have z_w2_0 : w.heap.size < w2.heap.size := by have := hb_w2.size; first | omega | (simp at this; omega)
  have c_w2_0_0 : w2.cell? ⟨w.heap.size, 0, none⟩ = some (.int .i64 2) := (hb_w2.cell (by first | assumption | (simp; done) | (simp; omega))).trans (by first | assumption | (simp; done) | (simp [go_sem]; done) | (simp [*]; done) | ((repeat rw [World.cell?_alloc_lt _ _ _ (by first | (simp; done) | (simp; omega) | omega)]); first | assumption | (simp; done)))
  have c_w2_0_1 : w2.cell? ⟨w.heap.size, 1, none⟩ = some (.int .i64 (hn)) := (hb_w2.cell (by first | assumption | (simp; done) | (simp; omega))).trans (by first | assumption | (simp; done) | (simp [go_sem]; done) | (simp [*]; done) | ((repeat rw [World.cell?_alloc_lt _ _ _ (by first | (simp; done) | (simp; omega) | omega)]); first | assumption | (simp; done)))
  have z_w2_1 : w.heap.size + 1 < w2.heap.size := by have := hb_w2.size; first | omega | (simp at this; omega)
  have c_w2_1_0 : w2.cell? ⟨w.heap.size + 1, 0, none⟩ = some (.int .i64 1) := (hb_w2.cell (by first | assumption | (simp; done) | (simp; omega))).trans (by first | assumption | (simp; done) | (simp [go_sem]; done) | (simp [*]; done) | ((repeat rw [World.cell?_alloc_lt _ _ _ (by first | (simp; done) | (simp; omega) | omega)]); first | assumption | (simp; done)))
  have c_w2_1_1 : w2.cell? ⟨w.heap.size + 1, 1, none⟩ = some (.int .i64 (dn)) := (hb_w2.cell (by first | assumption | (simp; done) | (simp; omega))).trans (by first | assumption | (simp; done) | (simp [go_sem]; done) | (simp [*]; done) | ((repeat rw [World.cell?_alloc_lt _ _ _ (by first | (simp; done) | (simp; omega) | omega)]); first | assumption | (simp; done)))
  have z_w2_2 : w.heap.size + 1 + 1 < w2.heap.size := by have := hb_w2.size; first | omega | (simp at this; omega)
  have c_w2_2_0 : w2.cell? ⟨w.heap.size + 1 + 1, 0, none⟩ = some (.int .i64 0) := (hb_w2.cell (by first | assumption | (simp; done) | (simp; omega))).trans (by first | assumption | (simp; done) | (simp [go_sem]; done) | (simp [*]; done) | ((repeat rw [World.cell?_alloc_lt _ _ _ (by first | (simp; done) | (simp; omega) | omega)]); first | assumption | (simp; done)))
  have f_w2_2_0 : w2.frozen? ⟨w.heap.size + 1 + 1, 0, none⟩ = false := (hb_w2.frozen (by first | assumption | (simp; done) | (simp; omega))).trans (by first | assumption | (simp; done) | (simp [go_sem]; done) | (simp [*]; done))
  have c_w2_2_1 : w2.cell? ⟨w.heap.size + 1 + 1, 1, none⟩ = some (.int .i64 0) := (hb_w2.cell (by first | assumption | (simp; done) | (simp; omega))).trans (by first | assumption | (simp; done) | (simp [go_sem]; done) | (simp [*]; done) | ((repeat rw [World.cell?_alloc_lt _ _ _ (by first | (simp; done) | (simp; omega) | omega)]); first | assumption | (simp; done)))
  have f_w2_2_1 : w2.frozen? ⟨w.heap.size + 1 + 1, 1, none⟩ = false := (hb_w2.frozen (by first | assumption | (simp; done) | (simp; omega))).trans (by first | assumption | (simp; done) | (simp [go_sem]; done) | (simp [*]; done))
  have c_w2_2_2 : w2.cell? ⟨w.heap.size + 1 + 1, 2, none⟩ = some (.int .i64 0) := (hb_w2.cell (by first | assumption | (simp; done) | (simp; omega))).trans (by first | assumption | (simp; done) | (simp [go_sem]; done) | (simp [*]; done) | ((repeat rw [World.cell?_alloc_lt _ _ _ (by first | (simp; done) | (simp; omega) | omega)]); first | assumption | (simp; done)))
  have f_w2_2_2 : w2.frozen? ⟨w.heap.size + 1 + 1, 2, none⟩ = false := (hb_w2.frozen (by first | assumption | (simp; done) | (simp; omega))).trans (by first | assumption | (simp; done) | (simp [go_sem]; done) | (simp [*]; done))
  have c_w2_2_3 : w2.cell? ⟨w.heap.size + 1 + 1, 3, none⟩ = some (.int .i64 0) := (hb_w2.cell (by first | assumption | (simp; done) | (simp; omega))).trans (by first | assumption | (simp; done) | (simp [go_sem]; done) | (simp [*]; done) | ((repeat rw [World.cell?_alloc_lt _ _ _ (by first | (simp; done) | (simp; omega) | omega)]); first | assumption | (simp; done)))
  have f_w2_2_3 : w2.frozen? ⟨w.heap.size + 1 + 1, 3, none⟩ = false := (hb_w2.frozen (by first | assumption | (simp; done) | (simp; omega))).trans (by first | assumption | (simp; done) | (simp [go_sem]; done) | (simp [*]; done))
  clear c_w1_0_0 c_w1_0_1 c_w1_1_0 c_w1_1_1 c_w1_2_0 f_w1_2_0 c_w1_2_1 f_w1_2_1 c_w1_2_2 f_w1_2_2 c_w1_2_3 f_w1_2_3 z_w1_0 z_w1_1 z_w1_2 B_w1 hb_w2
  go_wp2_with fail
  refine bodyPost_ret (v := .tuple #[.agg #[.int .i64 10, .int .i64 0, .int .i64 (hn), .int .i64 2], .int .i64 0]) (by simp [results, Try.results17, go_sem, hm, c_w2_2_0, c_w2_2_1, c_w2_2_2, c_w2_2_3, z_w2_2]) rfl ⟨rfl, ?_⟩
  have hz := B_w2.size
  go_grown
set_option maxHeartbeats 1000000 in
theorem jp_22lt (hn : Int) (a1 : 1 ≤ hn) (a2 : hn ≤ 4294967295) (dn : Int) (b1 : 1 ≤ dn) (b2 : dn ≤ 4294967295) (hlt : hn < dn) (w : World) : Calls Try.prog 17 #[.agg #[.int .i64 2, .int .i64 (hn)], .agg #[.int .i64 2, .int .i64 (dn)]] w fun r w' => r = .returned (.tuple #[.agg #[.int .i64 13, .int .i64 0, .int .i64 (hn), .int .i64 2], .int .i64 0]) ∧ Below w.heap.size w w' := by
  have t1 := transfer_any 2 (hn)
  have t2 := transfer_any 2 (dn)
  rw [show mvOk 2 (hn) = true by unfold mvOk; simp <;> omega] at t1
  rw [show mvOk 2 (dn) = true by unfold mvOk; simp <;> omega] at t2
  have H1 := Lib.hid t1
  have H2 := Lib.hid t2
  have hm : min (hn : Int) (dn) = hn := by omega
  clear t1 t2
  go_enter Try.func17, Try.ntmps17
  go_wp2_with fail
  refine (H1.out _).mono ?_
  rintro r_w1 w1 ⟨rfl, hb_w1⟩
  have B_w1 : Below w.heap.size w w1 := by first | exact hb_w1 | exact ((Below.refl _ _).alloc (Nat.le_refl _) _).trans (hb_w1.mono (by simp)) | exact (((Below.refl _ _).alloc (Nat.le_refl _) _).alloc (by simp) _).trans (hb_w1.mono (by simp; omega)) | exact Below.trans (by go_grown) (hb_w1.mono (by simp; omega))
  have z_w1_0 : w.heap.size < w1.heap.size := by have := hb_w1.size; first | omega | (simp at this; omega)
  have c_w1_0_0 : w1.cell? ⟨w.heap.size, 0, none⟩ = some (.int .i64 2) := (hb_w1.cell (by first | assumption | (simp; done) | (simp; omega))).trans (by first | assumption | (simp; done) | (simp [go_sem]; done) | (simp [*]; done) | ((repeat rw [World.cell?_alloc_lt _ _ _ (by first | (simp; done) | (simp; omega) | omega)]); first | assumption | (simp; done)))
  have c_w1_0_1 : w1.cell? ⟨w.heap.size, 1, none⟩ = some (.int .i64 (hn)) := (hb_w1.cell (by first | assumption | (simp; done) | (simp; omega))).trans (by first | assumption | (simp; done) | (simp [go_sem]; done) | (simp [*]; done) | ((repeat rw [World.cell?_alloc_lt _ _ _ (by first | (simp; done) | (simp; omega) | omega)]); first | assumption | (simp; done)))
  have z_w1_1 : w.heap.size + 1 < w1.heap.size := by have := hb_w1.size; first | omega | (simp at this; omega)
  have c_w1_1_0 : w1.cell? ⟨w.heap.size + 1, 0, none⟩ = some (.int .i64 2) := (hb_w1.cell (by first | assumption | (simp; done) | (simp; omega))).trans (by first | assumption | (simp; done) | (simp [go_sem]; done) | (simp [*]; done) | ((repeat rw [World.cell?_alloc_lt _ _ _ (by first | (simp; done) | (simp; omega) | omega)]); first | assumption | (simp; done)))
  have c_w1_1_1 : w1.cell? ⟨w.heap.size + 1, 1, none⟩ = some (.int .i64 (dn)) := (hb_w1.cell (by first | assumption | (simp; done) | (simp; omega))).trans (by first | assumption | (simp; done) | (simp [go_sem]; done) | (simp [*]; done) | ((repeat rw [World.cell?_alloc_lt _ _ _ (by first | (simp; done) | (simp; omega) | omega)]); first | assumption | (simp; done)))
  have z_w1_2 : w.heap.size + 1 + 1 < w1.heap.size := by have := hb_w1.size; first | omega | (simp at this; omega)
  have c_w1_2_0 : w1.cell? ⟨w.heap.size + 1 + 1, 0, none⟩ = some (.int .i64 0) := (hb_w1.cell (by first | assumption | (simp; done) | (simp; omega))).trans (by first | assumption | (simp; done) | (simp [go_sem]; done) | (simp [*]; done) | ((repeat rw [World.cell?_alloc_lt _ _ _ (by first | (simp; done) | (simp; omega) | omega)]); first | assumption | (simp; done)))
  have f_w1_2_0 : w1.frozen? ⟨w.heap.size + 1 + 1, 0, none⟩ = false := (hb_w1.frozen (by first | assumption | (simp; done) | (simp; omega))).trans (by first | assumption | (simp; done) | (simp [go_sem]; done) | (simp [*]; done))
  have c_w1_2_1 : w1.cell? ⟨w.heap.size + 1 + 1, 1, none⟩ = some (.int .i64 0) := (hb_w1.cell (by first | assumption | (simp; done) | (simp; omega))).trans (by first | assumption | (simp; done) | (simp [go_sem]; done) | (simp [*]; done) | ((repeat rw [World.cell?_alloc_lt _ _ _ (by first | (simp; done) | (simp; omega) | omega)]); first | assumption | (simp; done)))
  have f_w1_2_1 : w1.frozen? ⟨w.heap.size + 1 + 1, 1, none⟩ = false := (hb_w1.frozen (by first | assumption | (simp; done) | (simp; omega))).trans (by first | assumption | (simp; done) | (simp [go_sem]; done) | (simp [*]; done))
  have c_w1_2_2 : w1.cell? ⟨w.heap.size + 1 + 1, 2, none⟩ = some (.int .i64 0) := (hb_w1.cell (by first | assumption | (simp; done) | (simp; omega))).trans (by first | assumption | (simp; done) | (simp [go_sem]; done) | (simp [*]; done) | ((repeat rw [World.cell?_alloc_lt _ _ _ (by first | (simp; done) | (simp; omega) | omega)]); first | assumption | (simp; done)))
  have f_w1_2_2 : w1.frozen? ⟨w.heap.size + 1 + 1, 2, none⟩ = false := (hb_w1.frozen (by first | assumption | (simp; done) | (simp; omega))).trans (by first | assumption | (simp; done) | (simp [go_sem]; done) | (simp [*]; done))
  have c_w1_2_3 : w1.cell? ⟨w.heap.size + 1 + 1, 3, none⟩ = some (.int .i64 0) := (hb_w1.cell (by first | assumption | (simp; done) | (simp; omega))).trans (by first | assumption | (simp; done) | (simp [go_sem]; done) | (simp [*]; done) | ((repeat rw [World.cell?_alloc_lt _ _ _ (by first | (simp; done) | (simp; omega) | omega)]); first | assumption | (simp; done)))
  have f_w1_2_3 : w1.frozen? ⟨w.heap.size + 1 + 1, 3, none⟩ = false := (hb_w1.frozen (by first | assumption | (simp; done) | (simp; omega))).trans (by first | assumption | (simp; done) | (simp [go_sem]; done) | (simp [*]; done))
  clear hb_w1
  go_wp2_with fail
  refine (H2.out _).mono ?_
  rintro r_w2 w2 ⟨rfl, hb_w2⟩
  have B_w2 : Below w.heap.size w w2 := by first | exact B_w1.trans (hb_w2.mono B_w1.size) | exact (B_w1.alloc B_w1.size _).trans (hb_w2.mono (by have := B_w1.size; simp; omega)) | exact ((B_w1.alloc B_w1.size _).alloc (by have := B_w1.size; simp; omega) _).trans (hb_w2.mono (by have := B_w1.size; simp; omega)) | (have := B_w1.size; exact Below.trans (by go_grown) (hb_w2.mono (by simp; omega)))
  have z_w2_0 : w.heap.size < w2.heap.size := by have := hb_w2.size; first | omega | (simp at this; omega)
  have c_w2_0_0 : w2.cell? ⟨w.heap.size, 0, none⟩ = some (.int .i64 2) := (hb_w2.cell (by first | assumption | (simp; done) | (simp; omega))).trans (by first | assumption | (simp; done) | (simp [go_sem]; done) | (simp [*]; done) | ((repeat rw [World.cell?_alloc_lt _ _ _ (by first | (simp; done) | (simp; omega) | omega)]); first | assumption | (simp; done)))
  have c_w2_0_1 : w2.cell? ⟨w.heap.size, 1, none⟩ = some (.int .i64 (hn)) := (hb_w2.cell (by first | assumption | (simp; done) | (simp; omega))).trans (by first | assumption | (simp; done) | (simp [go_sem]; done) | (simp [*]; done) | ((repeat rw [World.cell?_alloc_lt _ _ _ (by first | (simp; done) | (simp; omega) | omega)]); first | assumption | (simp; done)))
  have z_w2_1 : w.heap.size + 1 < w2.heap.size := by have := hb_w2.size; first | omega | (simp at this; omega)
  have c_w2_1_0 : w2.cell? ⟨w.heap.size + 1, 0, none⟩ = some (.int .i64 2) := (hb_w2.cell (by first | assumption | (simp; done) | (simp; omega))).trans (by first | assumption | (simp; done) | (simp [go_sem]; done) | (simp [*]; done) | ((repeat rw [World.cell?_alloc_lt _ _ _ (by first | (simp; done) | (simp; omega) | omega)]); first | assumption | (simp; done)))
  have c_w2_1_1 : w2.cell? ⟨w.heap.size + 1, 1, none⟩ = some (.int .i64 (dn)) := (hb_w2.cell (by first | assumption | (simp; done) | (simp; omega))).trans (by first | assumption | (simp; done) | (simp [go_sem]; done) | (simp [*]; done) | ((repeat rw [World.cell?_alloc_lt _ _ _ (by first | (simp; done) | (simp; omega) | omega)]); first | assumption | (simp; done)))
  have z_w2_2 : w.heap.size + 1 + 1 < w2.heap.size := by have := hb_w2.size; first | omega | (simp at this; omega)
  have c_w2_2_0 : w2.cell? ⟨w.heap.size + 1 + 1, 0, none⟩ = some (.int .i64 0) := (hb_w2.cell (by first | assumption | (simp; done) | (simp; omega))).trans (by first | assumption | (simp; done) | (simp [go_sem]; done) | (simp [*]; done) | ((repeat rw [World.cell?_alloc_lt _ _ _ (by first | (simp; done) | (simp; omega) | omega)]); first | assumption | (simp; done)))
  have f_w2_2_0 : w2.frozen? ⟨w.heap.size + 1 + 1, 0, none⟩ = false := (hb_w2.frozen (by first | assumption | (simp; done) | (simp; omega))).trans (by first | assumption | (simp; done) | (simp [go_sem]; done) | (simp [*]; done))
  have c_w2_2_1 : w2.cell? ⟨w.heap.size + 1 + 1, 1, none⟩ = some (.int .i64 0) := (hb_w2.cell (by first | assumption | (simp; done) | (simp; omega))).trans (by first | assumption | (simp; done) | (simp [go_sem]; done) | (simp [*]; done) | ((repeat rw [World.cell?_alloc_lt _ _ _ (by first | (simp; done) | (simp; omega) | omega)]); first | assumption | (simp; done)))
  have f_w2_2_1 : w2.frozen? ⟨w.heap.size + 1 + 1, 1, none⟩ = false := (hb_w2.frozen (by first | assumption | (simp; done) | (simp; omega))).trans (by first | assumption | (simp; done) | (simp [go_sem]; done) | (simp [*]; done))
  have c_w2_2_2 : w2.cell? ⟨w.heap.size + 1 + 1, 2, none⟩ = some (.int .i64 0) := (hb_w2.cell (by first | assumption | (simp; done) | (simp; omega))).trans (by first | assumption | (simp; done) | (simp [go_sem]; done) | (simp [*]; done) | ((repeat rw [World.cell?_alloc_lt _ _ _ (by first | (simp; done) | (simp; omega) | omega)]); first | assumption | (simp; done)))
  have f_w2_2_2 : w2.frozen? ⟨w.heap.size + 1 + 1, 2, none⟩ = false := (hb_w2.frozen (by first | assumption | (simp; done) | (simp; omega))).trans (by first | assumption | (simp; done) | (simp [go_sem]; done) | (simp [*]; done))
  have c_w2_2_3 : w2.cell? ⟨w.heap.size + 1 + 1, 3, none⟩ = some (.int .i64 0) := (hb_w2.cell (by first | assumption | (simp; done) | (simp; omega))).trans (by first | assumption | (simp; done) | (simp [go_sem]; done) | (simp [*]; done) | ((repeat rw [World.cell?_alloc_lt _ _ _ (by first | (simp; done) | (simp; omega) | omega)]); first | assumption | (simp; done)))
  have f_w2_2_3 : w2.frozen? ⟨w.heap.size + 1 + 1, 3, none⟩ = false := (hb_w2.frozen (by first | assumption | (simp; done) | (simp; omega))).trans (by first | assumption | (simp; done) | (simp [go_sem]; done) | (simp [*]; done))
  clear c_w1_0_0 c_w1_0_1 c_w1_1_0 c_w1_1_1 c_w1_2_0 f_w1_2_0 c_w1_2_1 f_w1_2_1 c_w1_2_2 f_w1_2_2 c_w1_2_3 f_w1_2_3 z_w1_0 z_w1_1 z_w1_2 B_w1 hb_w2
  go_wp2_with fail
  refine bodyPost_ret (v := .tuple #[.agg #[.int .i64 13, .int .i64 0, .int .i64 (hn), .int .i64 2], .int .i64 0]) (by simp [results, Try.results17, go_sem, hm, c_w2_2_0, c_w2_2_1, c_w2_2_2, c_w2_2_3, z_w2_2]) rfl ⟨rfl, ?_⟩
  have hz := B_w2.size
  go_grown
set_option maxHeartbeats 1000000 in
theorem jp_22eq (hn : Int) (a1 : 1 ≤ hn) (a2 : hn ≤ 4294967295) (w : World) : Calls Try.prog 17 #[.agg #[.int .i64 2, .int .i64 (hn)], .agg #[.int .i64 2, .int .i64 (hn)]] w fun r w' => r = .returned (.tuple #[.agg #[.int .i64 12, .int .i64 (hn), .int .i64 (0), .int .i64 0], .int .i64 0]) ∧ Below w.heap.size w w' := by
  have t1 := transfer_any 2 (hn)
  have t2 := transfer_any 2 (hn)
  rw [show mvOk 2 (hn) = true by unfold mvOk; simp <;> omega] at t1
  rw [show mvOk 2 (hn) = true by unfold mvOk; simp <;> omega] at t2
  have H1 := Lib.hid t1
  have H2 := Lib.hid t2
  have hm : min (hn : Int) (hn) = hn := by omega
  clear t1 t2
  go_enter Try.func17, Try.ntmps17
  go_wp2_with fail
  refine (H1.out _).mono ?_
  rintro r_w1 w1 ⟨rfl, hb_w1⟩
  have B_w1 : Below w.heap.size w w1 := by first | exact hb_w1 | exact ((Below.refl _ _).alloc (Nat.le_refl _) _).trans (hb_w1.mono (by simp)) | exact (((Below.refl _ _).alloc (Nat.le_refl _) _).alloc (by simp) _).trans (hb_w1.mono (by simp; omega)) | exact Below.trans (by go_grown) (hb_w1.mono (by simp; omega))
  have z_w1_0 : w.heap.size < w1.heap.size := by have := hb_w1.size; first | omega | (simp at this; omega)
  have c_w1_0_0 : w1.cell? ⟨w.heap.size, 0, none⟩ = some (.int .i64 2) := (hb_w1.cell (by first | assumption | (simp; done) | (simp; omega))).trans (by first | assumption | (simp; done) | (simp [go_sem]; done) | (simp [*]; done) | ((repeat rw [World.cell?_alloc_lt _ _ _ (by first | (simp; done) | (simp; omega) | omega)]); first | assumption | (simp; done)))
  have c_w1_0_1 : w1.cell? ⟨w.heap.size, 1, none⟩ = some (.int .i64 (hn)) := (hb_w1.cell (by first | assumption | (simp; done) | (simp; omega))).trans (by first | assumption | (simp; done) | (simp [go_sem]; done) | (simp [*]; done) | ((repeat rw [World.cell?_alloc_lt _ _ _ (by first | (simp; done) | (simp; omega) | omega)]); first | assumption | (simp; done)))
  have z_w1_1 : w.heap.size + 1 < w1.heap.size := by have := hb_w1.size; first | omega | (simp at this; omega)
  have c_w1_1_0 : w1.cell? ⟨w.heap.size + 1, 0, none⟩ = some (.int .i64 2) := (hb_w1.cell (by first | assumption | (simp; done) | (simp; omega))).trans (by first | assumption | (simp; done) | (simp [go_sem]; done) | (simp [*]; done) | ((repeat rw [World.cell?_alloc_lt _ _ _ (by first | (simp; done) | (simp; omega) | omega)]); first | assumption | (simp; done)))
  have c_w1_1_1 : w1.cell? ⟨w.heap.size + 1, 1, none⟩ = some (.int .i64 (hn)) := (hb_w1.cell (by first | assumption | (simp; done) | (simp; omega))).trans (by first | assumption | (simp; done) | (simp [go_sem]; done) | (simp [*]; done) | ((repeat rw [World.cell?_alloc_lt _ _ _ (by first | (simp; done) | (simp; omega) | omega)]); first | assumption | (simp; done)))
  have z_w1_2 : w.heap.size + 1 + 1 < w1.heap.size := by have := hb_w1.size; first | omega | (simp at this; omega)
  have c_w1_2_0 : w1.cell? ⟨w.heap.size + 1 + 1, 0, none⟩ = some (.int .i64 0) := (hb_w1.cell (by first | assumption | (simp; done) | (simp; omega))).trans (by first | assumption | (simp; done) | (simp [go_sem]; done) | (simp [*]; done) | ((repeat rw [World.cell?_alloc_lt _ _ _ (by first | (simp; done) | (simp; omega) | omega)]); first | assumption | (simp; done)))
  have f_w1_2_0 : w1.frozen? ⟨w.heap.size + 1 + 1, 0, none⟩ = false := (hb_w1.frozen (by first | assumption | (simp; done) | (simp; omega))).trans (by first | assumption | (simp; done) | (simp [go_sem]; done) | (simp [*]; done))
  have c_w1_2_1 : w1.cell? ⟨w.heap.size + 1 + 1, 1, none⟩ = some (.int .i64 0) := (hb_w1.cell (by first | assumption | (simp; done) | (simp; omega))).trans (by first | assumption | (simp; done) | (simp [go_sem]; done) | (simp [*]; done) | ((repeat rw [World.cell?_alloc_lt _ _ _ (by first | (simp; done) | (simp; omega) | omega)]); first | assumption | (simp; done)))
  have f_w1_2_1 : w1.frozen? ⟨w.heap.size + 1 + 1, 1, none⟩ = false := (hb_w1.frozen (by first | assumption | (simp; done) | (simp; omega))).trans (by first | assumption | (simp; done) | (simp [go_sem]; done) | (simp [*]; done))
  have c_w1_2_2 : w1.cell? ⟨w.heap.size + 1 + 1, 2, none⟩ = some (.int .i64 0) := (hb_w1.cell (by first | assumption | (simp; done) | (simp; omega))).trans (by first | assumption | (simp; done) | (simp [go_sem]; done) | (simp [*]; done) | ((repeat rw [World.cell?_alloc_lt _ _ _ (by first | (simp; done) | (simp; omega) | omega)]); first | assumption | (simp; done)))
  have f_w1_2_2 : w1.frozen? ⟨w.heap.size + 1 + 1, 2, none⟩ = false := (hb_w1.frozen (by first | assumption | (simp; done) | (simp; omega))).trans (by first | assumption | (simp; done) | (simp [go_sem]; done) | (simp [*]; done))
  have c_w1_2_3 : w1.cell? ⟨w.heap.size + 1 + 1, 3, none⟩ = some (.int .i64 0) := (hb_w1.cell (by first | assumption | (simp; done) | (simp; omega))).trans (by first | assumption | (simp; done) | (simp [go_sem]; done) | (simp [*]; done) | ((repeat rw [World.cell?_alloc_lt _ _ _ (by first | (simp; done) | (simp; omega) | omega)]); first | assumption | (simp; done)))
  have f_w1_2_3 : w1.frozen? ⟨w.heap.size + 1 + 1, 3, none⟩ = false := (hb_w1.frozen (by first | assumption | (simp; done) | (simp; omega))).trans (by first | assumption | (simp; done) | (simp [go_sem]; done) | (simp [*]; done))
  clear hb_w1
  go_wp2_with fail
  refine (H2.out _).mono ?_
  rintro r_w2 w2 ⟨rfl, hb_w2⟩
  have B_w2 : Below w.heap.size w w2 := by first | exact B_w1.trans (hb_w2.mono B_w1.size) | exact (B_w1.alloc B_w1.size _).trans (hb_w2.mono (by have := B_w1.size; simp; omega)) | exact ((B_w1.alloc B_w1.size _).alloc (by have := B_w1.size; simp; omega) _).trans (hb_w2.mono (by have := B_w1.size; simp; omega)) | (have := B_w1.size; exact Below.trans (by go_grown) (hb_w2.mono (by simp; omega)))
  have z_w2_0 : w.heap.size < w2.heap.size := by have := hb_w2.size; first | omega | (simp at this; omega)
  have c_w2_0_0 : w2.cell? ⟨w.heap.size, 0, none⟩ = some (.int .i64 2) := (hb_w2.cell (by first | assumption | (simp; done) | (simp; omega))).trans (by first | assumption | (simp; done) | (simp [go_sem]; done) | (simp [*]; done) | ((repeat rw [World.cell?_alloc_lt _ _ _ (by first | (simp; done) | (simp; omega) | omega)]); first | assumption | (simp; done)))
  have c_w2_0_1 : w2.cell? ⟨w.heap.size, 1, none⟩ = some (.int .i64 (hn)) := (hb_w2.cell (by first | assumption | (simp; done) | (simp; omega))).trans (by first | assumption | (simp; done) | (simp [go_sem]; done) | (simp [*]; done) | ((repeat rw [World.cell?_alloc_lt _ _ _ (by first | (simp; done) | (simp; omega) | omega)]); first | assumption | (simp; done)))
  have z_w2_1 : w.heap.size + 1 < w2.heap.size := by have := hb_w2.size; first | omega | (simp at this; omega)
  have c_w2_1_0 : w2.cell? ⟨w.heap.size + 1, 0, none⟩ = some (.int .i64 2) := (hb_w2.cell (by first | assumption | (simp; done) | (simp; omega))).trans (by first | assumption | (simp; done) | (simp [go_sem]; done) | (simp [*]; done) | ((repeat rw [World.cell?_alloc_lt _ _ _ (by first | (simp; done) | (simp; omega) | omega)]); first | assumption | (simp; done)))
  have c_w2_1_1 : w2.cell? ⟨w.heap.size + 1, 1, none⟩ = some (.int .i64 (hn)) := (hb_w2.cell (by first | assumption | (simp; done) | (simp; omega))).trans (by first | assumption | (simp; done) | (simp [go_sem]; done) | (simp [*]; done) | ((repeat rw [World.cell?_alloc_lt _ _ _ (by first | (simp; done) | (simp; omega) | omega)]); first | assumption | (simp; done)))
  have z_w2_2 : w.heap.size + 1 + 1 < w2.heap.size := by have := hb_w2.size; first | omega | (simp at this; omega)
  have c_w2_2_0 : w2.cell? ⟨w.heap.size + 1 + 1, 0, none⟩ = some (.int .i64 0) := (hb_w2.cell (by first | assumption | (simp; done) | (simp; omega))).trans (by first | assumption | (simp; done) | (simp [go_sem]; done) | (simp [*]; done) | ((repeat rw [World.cell?_alloc_lt _ _ _ (by first | (simp; done) | (simp; omega) | omega)]); first | assumption | (simp; done)))
  have f_w2_2_0 : w2.frozen? ⟨w.heap.size + 1 + 1, 0, none⟩ = false := (hb_w2.frozen (by first | assumption | (simp; done) | (simp; omega))).trans (by first | assumption | (simp; done) | (simp [go_sem]; done) | (simp [*]; done))
  have c_w2_2_1 : w2.cell? ⟨w.heap.size + 1 + 1, 1, none⟩ = some (.int .i64 0) := (hb_w2.cell (by first | assumption | (simp; done) | (simp; omega))).trans (by first | assumption | (simp; done) | (simp [go_sem]; done) | (simp [*]; done) | ((repeat rw [World.cell?_alloc_lt _ _ _ (by first | (simp; done) | (simp; omega) | omega)]); first | assumption | (simp; done)))
  have f_w2_2_1 : w2.frozen? ⟨w.heap.size + 1 + 1, 1, none⟩ = false := (hb_w2.frozen (by first | assumption | (simp; done) | (simp; omega))).trans (by first | assumption | (simp; done) | (simp [go_sem]; done) | (simp [*]; done))
  have c_w2_2_2 : w2.cell? ⟨w.heap.size + 1 + 1, 2, none⟩ = some (.int .i64 0) := (hb_w2.cell (by first | assumption | (simp; done) | (simp; omega))).trans (by first | assumption | (simp; done) | (simp [go_sem]; done) | (simp [*]; done) | ((repeat rw [World.cell?_alloc_lt _ _ _ (by first | (simp; done) | (simp; omega) | omega)]); first | assumption | (simp; done)))
  have f_w2_2_2 : w2.frozen? ⟨w.heap.size + 1 + 1, 2, none⟩ = false := (hb_w2.frozen (by first | assumption | (simp; done) | (simp; omega))).trans (by first | assumption | (simp; done) | (simp [go_sem]; done) | (simp [*]; done))
  have c_w2_2_3 : w2.cell? ⟨w.heap.size + 1 + 1, 3, none⟩ = some (.int .i64 0) := (hb_w2.cell (by first | assumption | (simp; done) | (simp; omega))).trans (by first | assumption | (simp; done) | (simp [go_sem]; done) | (simp [*]; done) | ((repeat rw [World.cell?_alloc_lt _ _ _ (by first | (simp; done) | (simp; omega) | omega)]); first | assumption | (simp; done)))
  have f_w2_2_3 : w2.frozen? ⟨w.heap.size + 1 + 1, 3, none⟩ = false := (hb_w2.frozen (by first | assumption | (simp; done) | (simp; omega))).trans (by first | assumption | (simp; done) | (simp [go_sem]; done) | (simp [*]; done))
  clear c_w1_0_0 c_w1_0_1 c_w1_1_0 c_w1_1_1 c_w1_2_0 f_w1_2_0 c_w1_2_1 f_w1_2_1 c_w1_2_2 f_w1_2_2 c_w1_2_3 f_w1_2_3 z_w1_0 z_w1_1 z_w1_2 B_w1 hb_w2
  go_wp2_with fail
  refine bodyPost_ret (v := .tuple #[.agg #[.int .i64 12, .int .i64 (hn), .int .i64 (0), .int .i64 0], .int .i64 0]) (by simp [results, Try.results17, go_sem, hm, c_w2_2_0, c_w2_2_1, c_w2_2_2, c_w2_2_3, z_w2_2]) rfl ⟨rfl, ?_⟩
  have hz := B_w2.size
  go_grown
set_option maxHeartbeats 1000000 in
theorem jp_22gt (hn : Int) (a1 : 1 ≤ hn) (a2 : hn ≤ 4294967295) (dn : Int) (b1 : 1 ≤ dn) (b2 : dn ≤ 4294967295) (hlt : dn < hn) (w : World) : Calls Try.prog 17 #[.agg #[.int .i64 2, .int .i64 (hn)], .agg #[.int .i64 2, .int .i64 (dn)]] w fun r w' => r = .returned (.tuple #[.agg #[.int .i64 11, .int .i64 (dn), .int .i64 (hn - dn), .int .i64 0], .int .i64 0]) ∧ Below w.heap.size w w' := by
  have t1 := transfer_any 2 (hn)
  have t2 := transfer_any 2 (dn)
  rw [show mvOk 2 (hn) = true by unfold mvOk; simp <;> omega] at t1
  rw [show mvOk 2 (dn) = true by unfold mvOk; simp <;> omega] at t2
  have H1 := Lib.hid t1
  have H2 := Lib.hid t2
  have hm : min (hn : Int) (dn) = dn := by omega
  clear t1 t2
  go_enter Try.func17, Try.ntmps17
  go_wp2_with fail
  refine (H1.out _).mono ?_
  rintro r_w1 w1 ⟨rfl, hb_w1⟩
  have B_w1 : Below w.heap.size w w1 := by first | exact hb_w1 | exact ((Below.refl _ _).alloc (Nat.le_refl _) _).trans (hb_w1.mono (by simp)) | exact (((Below.refl _ _).alloc (Nat.le_refl _) _).alloc (by simp) _).trans (hb_w1.mono (by simp; omega)) | exact Below.trans (by go_grown) (hb_w1.mono (by simp; omega))
  have z_w1_0 : w.heap.size < w1.heap.size := by have := hb_w1.size; first | omega | (simp at this; omega)
  have c_w1_0_0 : w1.cell? ⟨w.heap.size, 0, none⟩ = some (.int .i64 2) := (hb_w1.cell (by first | assumption | (simp; done) | (simp; omega))).trans (by first | assumption | (simp; done) | (simp [go_sem]; done) | (simp [*]; done) | ((repeat rw [World.cell?_alloc_lt _ _ _ (by first | (simp; done) | (simp; omega) | omega)]); first | assumption | (simp; done)))
  have c_w1_0_1 : w1.cell? ⟨w.heap.size, 1, none⟩ = some (.int .i64 (hn)) := (hb_w1.cell (by first | assumption | (simp; done) | (simp; omega))).trans (by first | assumption | (simp; done) | (simp [go_sem]; done) | (simp [*]; done) | ((repeat rw [World.cell?_alloc_lt _ _ _ (by first | (simp; done) | (simp; omega) | omega)]); first | assumption | (simp; done)))
  have z_w1_1 : w.heap.size + 1 < w1.heap.size := by have := hb_w1.size; first | omega | (simp at this; omega)
  have c_w1_1_0 : w1.cell? ⟨w.heap.size + 1, 0, none⟩ = some (.int .i64 2) := (hb_w1.cell (by first | assumption | (simp; done) | (simp; omega))).trans (by first | assumption | (simp; done) | (simp [go_sem]; done) | (simp [*]; done) | ((repeat rw [World.cell?_alloc_lt _ _ _ (by first | (simp; done) | (simp; omega) | omega)]); first | assumption | (simp; done)))
  have c_w1_1_1 : w1.cell? ⟨w.heap.size + 1, 1, none⟩ = some (.int .i64 (dn)) := (hb_w1.cell (by first | assumption | (simp; done) | (simp; omega))).trans (by first | assumption | (simp; done) | (simp [go_sem]; done) | (simp [*]; done) | ((repeat rw [World.cell?_alloc_lt _ _ _ (by first | (simp; done) | (simp; omega) | omega)]); first | assumption | (simp; done)))
  have z_w1_2 : w.heap.size + 1 + 1 < w1.heap.size := by have := hb_w1.size; first | omega | (simp at this; omega)
  have c_w1_2_0 : w1.cell? ⟨w.heap.size + 1 + 1, 0, none⟩ = some (.int .i64 0) := (hb_w1.cell (by first | assumption | (simp; done) | (simp; omega))).trans (by first | assumption | (simp; done) | (simp [go_sem]; done) | (simp [*]; done) | ((repeat rw [World.cell?_alloc_lt _ _ _ (by first | (simp; done) | (simp; omega) | omega)]); first | assumption | (simp; done)))
  have f_w1_2_0 : w1.frozen? ⟨w.heap.size + 1 + 1, 0, none⟩ = false := (hb_w1.frozen (by first | assumption | (simp; done) | (simp; omega))).trans (by first | assumption | (simp; done) | (simp [go_sem]; done) | (simp [*]; done))
  have c_w1_2_1 : w1.cell? ⟨w.heap.size + 1 + 1, 1, none⟩ = some (.int .i64 0) := (hb_w1.cell (by first | assumption | (simp; done) | (simp; omega))).trans (by first | assumption | (simp; done) | (simp [go_sem]; done) | (simp [*]; done) | ((repeat rw [World.cell?_alloc_lt _ _ _ (by first | (simp; done) | (simp; omega) | omega)]); first | assumption | (simp; done)))
  have f_w1_2_1 : w1.frozen? ⟨w.heap.size + 1 + 1, 1, none⟩ = false := (hb_w1.frozen (by first | assumption | (simp; done) | (simp; omega))).trans (by first | assumption | (simp; done) | (simp [go_sem]; done) | (simp [*]; done))
  have c_w1_2_2 : w1.cell? ⟨w.heap.size + 1 + 1, 2, none⟩ = some (.int .i64 0) := (hb_w1.cell (by first | assumption | (simp; done) | (simp; omega))).trans (by first | assumption | (simp; done) | (simp [go_sem]; done) | (simp [*]; done) | ((repeat rw [World.cell?_alloc_lt _ _ _ (by first | (simp; done) | (simp; omega) | omega)]); first | assumption | (simp; done)))
  have f_w1_2_2 : w1.frozen? ⟨w.heap.size + 1 + 1, 2, none⟩ = false := (hb_w1.frozen (by first | assumption | (simp; done) | (simp; omega))).trans (by first | assumption | (simp; done) | (simp [go_sem]; done) | (simp [*]; done))
  have c_w1_2_3 : w1.cell? ⟨w.heap.size + 1 + 1, 3, none⟩ = some (.int .i64 0) := (hb_w1.cell (by first | assumption | (simp; done) | (simp; omega))).trans (by first | assumption | (simp; done) | (simp [go_sem]; done) | (simp [*]; done) | ((repeat rw [World.cell?_alloc_lt _ _ _ (by first | (simp; done) | (simp; omega) | omega)]); first | assumption | (simp; done)))
  have f_w1_2_3 : w1.frozen? ⟨w.heap.size + 1 + 1, 3, none⟩ = false := (hb_w1.frozen (by first | assumption | (simp; done) | (simp; omega))).trans (by first | assumption | (simp; done) | (simp [go_sem]; done) | (simp [*]; done))
  clear hb_w1
  go_wp2_with fail
  refine (H2.out _).mono ?_
  rintro r_w2 w2 ⟨rfl, hb_w2⟩
  have B_w2 : Below w.heap.size w w2 := by first | exact B_w1.trans (hb_w2.mono B_w1.size) | exact (B_w1.alloc B_w1.size _).trans (hb_w2.mono (by have := B_w1.size; simp; omega)) | exact ((B_w1.alloc B_w1.size _).alloc (by have := B_w1.size; simp; omega) _).trans (hb_w2.mono (by have := B_w1.size; simp; omega)) | (have := B_w1.size; exact Below.trans (by go_grown) (hb_w2.mono (by simp; omega)))
  have z_w2_0 : w.heap.size < w2.heap.size := by have := hb_w2.size; first | omega | (simp at this; omega)
  have c_w2_0_0 : w2.cell? ⟨w.heap.size, 0, none⟩ = some (.int .i64 2) := (hb_w2.cell (by first | assumption | (simp; done) | (simp; omega))).trans (by first | assumption | (simp; done) | (simp [go_sem]; done) | (simp [*]; done) | ((repeat rw [World.cell?_alloc_lt _ _ _ (by first | (simp; done) | (simp; omega) | omega)]); first | assumption | (simp; done)))
  have c_w2_0_1 : w2.cell? ⟨w.heap.size, 1, none⟩ = some (.int .i64 (hn)) := (hb_w2.cell (by first | assumption | (simp; done) | (simp; omega))).trans (by first | assumption | (simp; done) | (simp [go_sem]; done) | (simp [*]; done) | ((repeat rw [World.cell?_alloc_lt _ _ _ (by first | (simp; done) | (simp; omega) | omega)]); first | assumption | (simp; done)))
  have z_w2_1 : w.heap.size + 1 < w2.heap.size := by have := hb_w2.size; first | omega | (simp at this; omega)
  have c_w2_1_0 : w2.cell? ⟨w.heap.size + 1, 0, none⟩ = some (.int .i64 2) := (hb_w2.cell (by first | assumption | (simp; done) | (simp; omega))).trans (by first | assumption | (simp; done) | (simp [go_sem]; done) | (simp [*]; done) | ((repeat rw [World.cell?_alloc_lt _ _ _ (by first | (simp; done) | (simp; omega) | omega)]); first | assumption | (simp; done)))
  have c_w2_1_1 : w2.cell? ⟨w.heap.size + 1, 1, none⟩ = some (.int .i64 (dn)) := (hb_w2.cell (by first | assumption | (simp; done) | (simp; omega))).trans (by first | assumption | (simp; done) | (simp [go_sem]; done) | (simp [*]; done) | ((repeat rw [World.cell?_alloc_lt _ _ _ (by first | (simp; done) | (simp; omega) | omega)]); first | assumption | (simp; done)))
  have z_w2_2 : w.heap.size + 1 + 1 < w2.heap.size := by have := hb_w2.size; first | omega | (simp at this; omega)
  have c_w2_2_0 : w2.cell? ⟨w.heap.size + 1 + 1, 0, none⟩ = some (.int .i64 0) := (hb_w2.cell (by first | assumption | (simp; done) | (simp; omega))).trans (by first | assumption | (simp; done) | (simp [go_sem]; done) | (simp [*]; done) | ((repeat rw [World.cell?_alloc_lt _ _ _ (by first | (simp; done) | (simp; omega) | omega)]); first | assumption | (simp; done)))
  have f_w2_2_0 : w2.frozen? ⟨w.heap.size + 1 + 1, 0, none⟩ = false := (hb_w2.frozen (by first | assumption | (simp; done) | (simp; omega))).trans (by first | assumption | (simp; done) | (simp [go_sem]; done) | (simp [*]; done))
  have c_w2_2_1 : w2.cell? ⟨w.heap.size + 1 + 1, 1, none⟩ = some (.int .i64 0) := (hb_w2.cell (by first | assumption | (simp; done) | (simp; omega))).trans (by first | assumption | (simp; done) | (simp [go_sem]; done) | (simp [*]; done) | ((repeat rw [World.cell?_alloc_lt _ _ _ (by first | (simp; done) | (simp; omega) | omega)]); first | assumption | (simp; done)))
  have f_w2_2_1 : w2.frozen? ⟨w.heap.size + 1 + 1, 1, none⟩ = false := (hb_w2.frozen (by first | assumption | (simp; done) | (simp; omega))).trans (by first | assumption | (simp; done) | (simp [go_sem]; done) | (simp [*]; done))
  have c_w2_2_2 : w2.cell? ⟨w.heap.size + 1 + 1, 2, none⟩ = some (.int .i64 0) := (hb_w2.cell (by first | assumption | (simp; done) | (simp; omega))).trans (by first | assumption | (simp; done) | (simp [go_sem]; done) | (simp [*]; done) | ((repeat rw [World.cell?_alloc_lt _ _ _ (by first | (simp; done) | (simp; omega) | omega)]); first | assumption | (simp; done)))
  have f_w2_2_2 : w2.frozen? ⟨w.heap.size + 1 + 1, 2, none⟩ = false := (hb_w2.frozen (by first | assumption | (simp; done) | (simp; omega))).trans (by first | assumption | (simp; done) | (simp [go_sem]; done) | (simp [*]; done))
  have c_w2_2_3 : w2.cell? ⟨w.heap.size + 1 + 1, 3, none⟩ = some (.int .i64 0) := (hb_w2.cell (by first | assumption | (simp; done) | (simp; omega))).trans (by first | assumption | (simp; done) | (simp [go_sem]; done) | (simp [*]; done) | ((repeat rw [World.cell?_alloc_lt _ _ _ (by first | (simp; done) | (simp; omega) | omega)]); first | assumption | (simp; done)))
  have f_w2_2_3 : w2.frozen? ⟨w.heap.size + 1 + 1, 3, none⟩ = false := (hb_w2.frozen (by first | assumption | (simp; done) | (simp; omega))).trans (by first | assumption | (simp; done) | (simp [go_sem]; done) | (simp [*]; done))
  clear c_w1_0_0 c_w1_0_1 c_w1_1_0 c_w1_1_1 c_w1_2_0 f_w1_2_0 c_w1_2_1 f_w1_2_1 c_w1_2_2 f_w1_2_2 c_w1_2_3 f_w1_2_3 z_w1_0 z_w1_1 z_w1_2 B_w1 hb_w2
  go_wp2_with fail
  refine bodyPost_ret (v := .tuple #[.agg #[.int .i64 11, .int .i64 (dn), .int .i64 (hn - dn), .int .i64 0], .int .i64 0]) (by simp [results, Try.results17, go_sem, hm, c_w2_2_0, c_w2_2_1, c_w2_2_2, c_w2_2_3, z_w2_2]) rfl ⟨rfl, ?_⟩
  have hz := B_w2.size
  go_grown
end Go.Proofs.Ytbeilpecdimheaa
