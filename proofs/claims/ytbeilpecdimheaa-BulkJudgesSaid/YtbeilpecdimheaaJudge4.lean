/- Contract: Judged (plugref), by directions and lengths. -/
import Derived.Test.YtbeilpecdimheaaJudge
namespace Go.Proofs.Ytbeilpecdimheaa
open Go.RowKit
set_option linter.unusedVariables false
set_option maxRecDepth 100000

theorem ixb (c : Nat) (x : Int) (hx : Lib.indexByte [2, 3, 7, 8, 10, 13] c.toUInt8 = x) (w : World) : Calls Try.prog 64 #[.string ⟨#[2, 3, 7, 8, 10, 13]⟩, .int .u8 c] w fun e w' => e = .returned (.int .i64 x) ∧ w = w' := by
  have h := Try.strings_IndexByte ⟨#[2, 3, 7, 8, 10, 13]⟩ (c : Int) w
  rw [Int.toNat_natCast] at h
  rw [← hx]
  exact h.mono fun e w' hh => by simpa [eq_comm] using hh
theorem ix_1 (w : World) : Calls Try.prog 64 #[.string ⟨#[2, 3, 7, 8, 10, 13]⟩, .int .u8 1] w fun e w' => e = .returned (.int .i64 (-1)) ∧ w = w' := ixb 1 _ (by decide) w
theorem ix_2 (w : World) : Calls Try.prog 64 #[.string ⟨#[2, 3, 7, 8, 10, 13]⟩, .int .u8 2] w fun e w' => e = .returned (.int .i64 (0)) ∧ w = w' := ixb 2 _ (by decide) w
theorem ix_3 (w : World) : Calls Try.prog 64 #[.string ⟨#[2, 3, 7, 8, 10, 13]⟩, .int .u8 3] w fun e w' => e = .returned (.int .i64 (1)) ∧ w = w' := ixb 3 _ (by decide) w
theorem ix_4 (w : World) : Calls Try.prog 64 #[.string ⟨#[2, 3, 7, 8, 10, 13]⟩, .int .u8 4] w fun e w' => e = .returned (.int .i64 (-1)) ∧ w = w' := ixb 4 _ (by decide) w
theorem ix_5 (w : World) : Calls Try.prog 64 #[.string ⟨#[2, 3, 7, 8, 10, 13]⟩, .int .u8 5] w fun e w' => e = .returned (.int .i64 (-1)) ∧ w = w' := ixb 5 _ (by decide) w
theorem ix_6 (w : World) : Calls Try.prog 64 #[.string ⟨#[2, 3, 7, 8, 10, 13]⟩, .int .u8 6] w fun e w' => e = .returned (.int .i64 (-1)) ∧ w = w' := ixb 6 _ (by decide) w
theorem ix_7 (w : World) : Calls Try.prog 64 #[.string ⟨#[2, 3, 7, 8, 10, 13]⟩, .int .u8 7] w fun e w' => e = .returned (.int .i64 (2)) ∧ w = w' := ixb 7 _ (by decide) w
theorem ix_8 (w : World) : Calls Try.prog 64 #[.string ⟨#[2, 3, 7, 8, 10, 13]⟩, .int .u8 8] w fun e w' => e = .returned (.int .i64 (3)) ∧ w = w' := ixb 8 _ (by decide) w
theorem ix_9 (w : World) : Calls Try.prog 64 #[.string ⟨#[2, 3, 7, 8, 10, 13]⟩, .int .u8 9] w fun e w' => e = .returned (.int .i64 (-1)) ∧ w = w' := ixb 9 _ (by decide) w
theorem ix_10 (w : World) : Calls Try.prog 64 #[.string ⟨#[2, 3, 7, 8, 10, 13]⟩, .int .u8 10] w fun e w' => e = .returned (.int .i64 (4)) ∧ w = w' := ixb 10 _ (by decide) w
theorem ix_11 (w : World) : Calls Try.prog 64 #[.string ⟨#[2, 3, 7, 8, 10, 13]⟩, .int .u8 11] w fun e w' => e = .returned (.int .i64 (-1)) ∧ w = w' := ixb 11 _ (by decide) w
theorem ix_12 (w : World) : Calls Try.prog 64 #[.string ⟨#[2, 3, 7, 8, 10, 13]⟩, .int .u8 12] w fun e w' => e = .returned (.int .i64 (-1)) ∧ w = w' := ixb 12 _ (by decide) w
theorem ix_13 (w : World) : Calls Try.prog 64 #[.string ⟨#[2, 3, 7, 8, 10, 13]⟩, .int .u8 13] w fun e w' => e = .returned (.int .i64 (5)) ∧ w = w' := ixb 13 _ (by decide) w
theorem tab_0 (w : World) : (Instr.index 92 (.agg #[.int .i64 1, .int .i64 1, .int .i64 1, .int .i64 2, .int .i64 2, .int .i64 2, .int .i64 3, .int .i64 3, .int .i64 3, .int .i64 4, .int .i64 4, .int .i64 4, .int .i64 5, .int .i64 6, .int .i64 7, .int .i64 8, .int .i64 8, .int .i64 8, .int .i64 9, .int .i64 9, .int .i64 9, .int .i64 10, .int .i64 10, .int .i64 10, .int .i64 11, .int .i64 12, .int .i64 13]) (.int .i64 0)).run Try.prog w = .ok (.agg #[.int .i64 1, .int .i64 1, .int .i64 1, .int .i64 2, .int .i64 2, .int .i64 2, .int .i64 3, .int .i64 3, .int .i64 3]) w := by kernel_rfl
theorem tab_00 (w : World) : (Instr.index 91 (.agg #[.int .i64 1, .int .i64 1, .int .i64 1, .int .i64 2, .int .i64 2, .int .i64 2, .int .i64 3, .int .i64 3, .int .i64 3]) (.int .i64 0)).run Try.prog w = .ok (.agg #[.int .i64 1, .int .i64 1, .int .i64 1]) w := by kernel_rfl
theorem tab_000 (w : World) : (Instr.index 90 (.agg #[.int .i64 1, .int .i64 1, .int .i64 1]) (.int .i64 0)).run Try.prog w = .ok (.int .i64 1) w := by kernel_rfl
theorem tab_001 (w : World) : (Instr.index 90 (.agg #[.int .i64 1, .int .i64 1, .int .i64 1]) (.int .i64 1)).run Try.prog w = .ok (.int .i64 1) w := by kernel_rfl
theorem tab_002 (w : World) : (Instr.index 90 (.agg #[.int .i64 1, .int .i64 1, .int .i64 1]) (.int .i64 2)).run Try.prog w = .ok (.int .i64 1) w := by kernel_rfl
theorem tab_01 (w : World) : (Instr.index 91 (.agg #[.int .i64 1, .int .i64 1, .int .i64 1, .int .i64 2, .int .i64 2, .int .i64 2, .int .i64 3, .int .i64 3, .int .i64 3]) (.int .i64 1)).run Try.prog w = .ok (.agg #[.int .i64 2, .int .i64 2, .int .i64 2]) w := by kernel_rfl
theorem tab_010 (w : World) : (Instr.index 90 (.agg #[.int .i64 2, .int .i64 2, .int .i64 2]) (.int .i64 0)).run Try.prog w = .ok (.int .i64 2) w := by kernel_rfl
theorem tab_011 (w : World) : (Instr.index 90 (.agg #[.int .i64 2, .int .i64 2, .int .i64 2]) (.int .i64 1)).run Try.prog w = .ok (.int .i64 2) w := by kernel_rfl
theorem tab_012 (w : World) : (Instr.index 90 (.agg #[.int .i64 2, .int .i64 2, .int .i64 2]) (.int .i64 2)).run Try.prog w = .ok (.int .i64 2) w := by kernel_rfl
theorem tab_02 (w : World) : (Instr.index 91 (.agg #[.int .i64 1, .int .i64 1, .int .i64 1, .int .i64 2, .int .i64 2, .int .i64 2, .int .i64 3, .int .i64 3, .int .i64 3]) (.int .i64 2)).run Try.prog w = .ok (.agg #[.int .i64 3, .int .i64 3, .int .i64 3]) w := by kernel_rfl
theorem tab_020 (w : World) : (Instr.index 90 (.agg #[.int .i64 3, .int .i64 3, .int .i64 3]) (.int .i64 0)).run Try.prog w = .ok (.int .i64 3) w := by kernel_rfl
theorem tab_021 (w : World) : (Instr.index 90 (.agg #[.int .i64 3, .int .i64 3, .int .i64 3]) (.int .i64 1)).run Try.prog w = .ok (.int .i64 3) w := by kernel_rfl
theorem tab_022 (w : World) : (Instr.index 90 (.agg #[.int .i64 3, .int .i64 3, .int .i64 3]) (.int .i64 2)).run Try.prog w = .ok (.int .i64 3) w := by kernel_rfl
theorem tab_1 (w : World) : (Instr.index 92 (.agg #[.int .i64 1, .int .i64 1, .int .i64 1, .int .i64 2, .int .i64 2, .int .i64 2, .int .i64 3, .int .i64 3, .int .i64 3, .int .i64 4, .int .i64 4, .int .i64 4, .int .i64 5, .int .i64 6, .int .i64 7, .int .i64 8, .int .i64 8, .int .i64 8, .int .i64 9, .int .i64 9, .int .i64 9, .int .i64 10, .int .i64 10, .int .i64 10, .int .i64 11, .int .i64 12, .int .i64 13]) (.int .i64 1)).run Try.prog w = .ok (.agg #[.int .i64 4, .int .i64 4, .int .i64 4, .int .i64 5, .int .i64 6, .int .i64 7, .int .i64 8, .int .i64 8, .int .i64 8]) w := by kernel_rfl
theorem tab_10 (w : World) : (Instr.index 91 (.agg #[.int .i64 4, .int .i64 4, .int .i64 4, .int .i64 5, .int .i64 6, .int .i64 7, .int .i64 8, .int .i64 8, .int .i64 8]) (.int .i64 0)).run Try.prog w = .ok (.agg #[.int .i64 4, .int .i64 4, .int .i64 4]) w := by kernel_rfl
theorem tab_100 (w : World) : (Instr.index 90 (.agg #[.int .i64 4, .int .i64 4, .int .i64 4]) (.int .i64 0)).run Try.prog w = .ok (.int .i64 4) w := by kernel_rfl
theorem tab_101 (w : World) : (Instr.index 90 (.agg #[.int .i64 4, .int .i64 4, .int .i64 4]) (.int .i64 1)).run Try.prog w = .ok (.int .i64 4) w := by kernel_rfl
theorem tab_102 (w : World) : (Instr.index 90 (.agg #[.int .i64 4, .int .i64 4, .int .i64 4]) (.int .i64 2)).run Try.prog w = .ok (.int .i64 4) w := by kernel_rfl
theorem tab_11 (w : World) : (Instr.index 91 (.agg #[.int .i64 4, .int .i64 4, .int .i64 4, .int .i64 5, .int .i64 6, .int .i64 7, .int .i64 8, .int .i64 8, .int .i64 8]) (.int .i64 1)).run Try.prog w = .ok (.agg #[.int .i64 5, .int .i64 6, .int .i64 7]) w := by kernel_rfl
theorem tab_110 (w : World) : (Instr.index 90 (.agg #[.int .i64 5, .int .i64 6, .int .i64 7]) (.int .i64 0)).run Try.prog w = .ok (.int .i64 5) w := by kernel_rfl
theorem tab_111 (w : World) : (Instr.index 90 (.agg #[.int .i64 5, .int .i64 6, .int .i64 7]) (.int .i64 1)).run Try.prog w = .ok (.int .i64 6) w := by kernel_rfl
theorem tab_112 (w : World) : (Instr.index 90 (.agg #[.int .i64 5, .int .i64 6, .int .i64 7]) (.int .i64 2)).run Try.prog w = .ok (.int .i64 7) w := by kernel_rfl
theorem tab_12 (w : World) : (Instr.index 91 (.agg #[.int .i64 4, .int .i64 4, .int .i64 4, .int .i64 5, .int .i64 6, .int .i64 7, .int .i64 8, .int .i64 8, .int .i64 8]) (.int .i64 2)).run Try.prog w = .ok (.agg #[.int .i64 8, .int .i64 8, .int .i64 8]) w := by kernel_rfl
theorem tab_120 (w : World) : (Instr.index 90 (.agg #[.int .i64 8, .int .i64 8, .int .i64 8]) (.int .i64 0)).run Try.prog w = .ok (.int .i64 8) w := by kernel_rfl
theorem tab_121 (w : World) : (Instr.index 90 (.agg #[.int .i64 8, .int .i64 8, .int .i64 8]) (.int .i64 1)).run Try.prog w = .ok (.int .i64 8) w := by kernel_rfl
theorem tab_122 (w : World) : (Instr.index 90 (.agg #[.int .i64 8, .int .i64 8, .int .i64 8]) (.int .i64 2)).run Try.prog w = .ok (.int .i64 8) w := by kernel_rfl
theorem tab_2 (w : World) : (Instr.index 92 (.agg #[.int .i64 1, .int .i64 1, .int .i64 1, .int .i64 2, .int .i64 2, .int .i64 2, .int .i64 3, .int .i64 3, .int .i64 3, .int .i64 4, .int .i64 4, .int .i64 4, .int .i64 5, .int .i64 6, .int .i64 7, .int .i64 8, .int .i64 8, .int .i64 8, .int .i64 9, .int .i64 9, .int .i64 9, .int .i64 10, .int .i64 10, .int .i64 10, .int .i64 11, .int .i64 12, .int .i64 13]) (.int .i64 2)).run Try.prog w = .ok (.agg #[.int .i64 9, .int .i64 9, .int .i64 9, .int .i64 10, .int .i64 10, .int .i64 10, .int .i64 11, .int .i64 12, .int .i64 13]) w := by kernel_rfl
theorem tab_20 (w : World) : (Instr.index 91 (.agg #[.int .i64 9, .int .i64 9, .int .i64 9, .int .i64 10, .int .i64 10, .int .i64 10, .int .i64 11, .int .i64 12, .int .i64 13]) (.int .i64 0)).run Try.prog w = .ok (.agg #[.int .i64 9, .int .i64 9, .int .i64 9]) w := by kernel_rfl
theorem tab_200 (w : World) : (Instr.index 90 (.agg #[.int .i64 9, .int .i64 9, .int .i64 9]) (.int .i64 0)).run Try.prog w = .ok (.int .i64 9) w := by kernel_rfl
theorem tab_201 (w : World) : (Instr.index 90 (.agg #[.int .i64 9, .int .i64 9, .int .i64 9]) (.int .i64 1)).run Try.prog w = .ok (.int .i64 9) w := by kernel_rfl
theorem tab_202 (w : World) : (Instr.index 90 (.agg #[.int .i64 9, .int .i64 9, .int .i64 9]) (.int .i64 2)).run Try.prog w = .ok (.int .i64 9) w := by kernel_rfl
theorem tab_21 (w : World) : (Instr.index 91 (.agg #[.int .i64 9, .int .i64 9, .int .i64 9, .int .i64 10, .int .i64 10, .int .i64 10, .int .i64 11, .int .i64 12, .int .i64 13]) (.int .i64 1)).run Try.prog w = .ok (.agg #[.int .i64 10, .int .i64 10, .int .i64 10]) w := by kernel_rfl
theorem tab_210 (w : World) : (Instr.index 90 (.agg #[.int .i64 10, .int .i64 10, .int .i64 10]) (.int .i64 0)).run Try.prog w = .ok (.int .i64 10) w := by kernel_rfl
theorem tab_211 (w : World) : (Instr.index 90 (.agg #[.int .i64 10, .int .i64 10, .int .i64 10]) (.int .i64 1)).run Try.prog w = .ok (.int .i64 10) w := by kernel_rfl
theorem tab_212 (w : World) : (Instr.index 90 (.agg #[.int .i64 10, .int .i64 10, .int .i64 10]) (.int .i64 2)).run Try.prog w = .ok (.int .i64 10) w := by kernel_rfl
theorem tab_22 (w : World) : (Instr.index 91 (.agg #[.int .i64 9, .int .i64 9, .int .i64 9, .int .i64 10, .int .i64 10, .int .i64 10, .int .i64 11, .int .i64 12, .int .i64 13]) (.int .i64 2)).run Try.prog w = .ok (.agg #[.int .i64 11, .int .i64 12, .int .i64 13]) w := by kernel_rfl
theorem tab_220 (w : World) : (Instr.index 90 (.agg #[.int .i64 11, .int .i64 12, .int .i64 13]) (.int .i64 0)).run Try.prog w = .ok (.int .i64 11) w := by kernel_rfl
theorem tab_221 (w : World) : (Instr.index 90 (.agg #[.int .i64 11, .int .i64 12, .int .i64 13]) (.int .i64 1)).run Try.prog w = .ok (.int .i64 12) w := by kernel_rfl
theorem tab_222 (w : World) : (Instr.index 90 (.agg #[.int .i64 11, .int .i64 12, .int .i64 13]) (.int .i64 2)).run Try.prog w = .ok (.int .i64 13) w := by kernel_rfl
set_option maxHeartbeats 1000000 in
theorem jr_00 (w : World) : Calls Try.prog 18 #[.agg #[.int .i64 0, .int .i64 (0)], .agg #[.int .i64 0, .int .i64 (0)]] w fun r w' => r = .returned (.tuple #[.agg #[.int .i64 1, .int .i64 (0), .int .i64 (0), .int .i64 0], .int .i64 0]) ∧ Below w.heap.size w w' := by
  have t1 := move_any 0 (0)
  have t2 := move_any 0 (0)
  rw [show mvOk 0 (0) = true by unfold mvOk; simp <;> omega] at t1
  rw [show mvOk 0 (0) = true by unfold mvOk; simp <;> omega] at t2
  have H1 := Lib.hid t1
  have H2 := Lib.hid t2
  have HX := Lib.hid ix_1
  have hm : min (0 : Int) (0) = 0 := by omega
  have x1 := tab_0
  have x2 := tab_00
  have x3 := tab_001
  clear t1 t2
  go_enter Try.func18, Try.ntmps18
  go_wp2_with fail
  refine (H1.out _).mono ?_
  rintro r_w1 w1 ⟨rfl, hb_w1⟩
  have B_w1 : Below w.heap.size w w1 := by first | exact hb_w1 | exact ((Below.refl _ _).alloc (Nat.le_refl _) _).trans (hb_w1.mono (by simp)) | exact (((Below.refl _ _).alloc (Nat.le_refl _) _).alloc (by simp) _).trans (hb_w1.mono (by simp; omega)) | exact Below.trans (by go_grown) (hb_w1.mono (by simp; omega))
  have z_w1_0 : w.heap.size < w1.heap.size := by have := hb_w1.size; first | omega | (simp at this; omega)
  have c_w1_0_0 : w1.cell? ⟨w.heap.size, 0, none⟩ = some (.int .i64 0) := (hb_w1.cell (by first | assumption | (simp; done) | (simp; omega))).trans (by first | assumption | (simp; done) | (simp [go_sem]; done) | (simp [*]; done) | ((repeat rw [World.cell?_alloc_lt _ _ _ (by first | (simp; done) | (simp; omega) | omega)]); first | assumption | (simp; done)))
  have c_w1_0_1 : w1.cell? ⟨w.heap.size, 1, none⟩ = some (.int .i64 (0)) := (hb_w1.cell (by first | assumption | (simp; done) | (simp; omega))).trans (by first | assumption | (simp; done) | (simp [go_sem]; done) | (simp [*]; done) | ((repeat rw [World.cell?_alloc_lt _ _ _ (by first | (simp; done) | (simp; omega) | omega)]); first | assumption | (simp; done)))
  have z_w1_1 : w.heap.size + 1 < w1.heap.size := by have := hb_w1.size; first | omega | (simp at this; omega)
  have c_w1_1_0 : w1.cell? ⟨w.heap.size + 1, 0, none⟩ = some (.int .i64 0) := (hb_w1.cell (by first | assumption | (simp; done) | (simp; omega))).trans (by first | assumption | (simp; done) | (simp [go_sem]; done) | (simp [*]; done) | ((repeat rw [World.cell?_alloc_lt _ _ _ (by first | (simp; done) | (simp; omega) | omega)]); first | assumption | (simp; done)))
  have c_w1_1_1 : w1.cell? ⟨w.heap.size + 1, 1, none⟩ = some (.int .i64 (0)) := (hb_w1.cell (by first | assumption | (simp; done) | (simp; omega))).trans (by first | assumption | (simp; done) | (simp [go_sem]; done) | (simp [*]; done) | ((repeat rw [World.cell?_alloc_lt _ _ _ (by first | (simp; done) | (simp; omega) | omega)]); first | assumption | (simp; done)))
  have z_w1_2 : w.heap.size + 1 + 1 < w1.heap.size := by have := hb_w1.size; first | omega | (simp at this; omega)
  have c_w1_2_0 : w1.cell? ⟨w.heap.size + 1 + 1, 0, none⟩ = some (.int .i64 0) := (hb_w1.cell (by first | assumption | (simp; done) | (simp; omega))).trans (by first | assumption | (simp; done) | (simp [go_sem]; done) | (simp [*]; done) | ((repeat rw [World.cell?_alloc_lt _ _ _ (by first | (simp; done) | (simp; omega) | omega)]); first | assumption | (simp; done)))
  have f_w1_2_0 : w1.frozen? ⟨w.heap.size + 1 + 1, 0, none⟩ = false := (hb_w1.frozen (by first | assumption | (simp; done) | (simp; omega))).trans (by first | assumption | (simp; done) | (simp [go_sem]; done) | (simp [*]; done))
  have c_w1_2_1 : w1.cell? ⟨w.heap.size + 1 + 1, 1, none⟩ = some (.int .i64 0) := (hb_w1.cell (by first | assumption | (simp; done) | (simp; omega))).trans (by first | assumption | (simp; done) | (simp [go_sem]; done) | (simp [*]; done) | ((repeat rw [World.cell?_alloc_lt _ _ _ (by first | (simp; done) | (simp; omega) | omega)]); first | assumption | (simp; done)))
  have f_w1_2_1 : w1.frozen? ⟨w.heap.size + 1 + 1, 1, none⟩ = false := (hb_w1.frozen (by first | assumption | (simp; done) | (simp; omega))).trans (by first | assumption | (simp; done) | (simp [go_sem]; done) | (simp [*]; done))
  have c_w1_2_2 : w1.cell? ⟨w.heap.size + 1 + 1, 2, none⟩ = some (.int .i64 0) := (hb_w1.cell (by first | assumption | (simp; done) | (simp; omega))).trans (by first | assumption | (simp; done) | (simp [go_sem]; done) | (simp [*]; done) | ((repeat rw [World.cell?_alloc_lt _ _ _ (by first | (simp; done) | (simp; omega) | omega)]); first | assumption | (simp; done)))
  have f_w1_2_2 : w1.frozen? ⟨w.heap.size + 1 + 1, 2, none⟩ = false := (hb_w1.frozen (by first | assumption | (simp; done) | (simp; omega))).trans (by first | assumption | (simp; done) | (simp [go_sem]; done) | (simp [*]; done))
  have c_w1_2_3 : w1.cell? ⟨w.heap.size + 1 + 1, 3, none⟩ = some (.int .i64 0) := (hb_w1.cell (by first | assumption | (simp; done) | (simp; omega))).trans (by first | assumption | (simp; done) | (simp [go_sem]; done) | (simp [*]; done) | ((repeat rw [World.cell?_alloc_lt _ _ _ (by first | (simp; done) | (simp; omega) | omega)]); first | assumption | (simp; done)))
  have f_w1_2_3 : w1.frozen? ⟨w.heap.size + 1 + 1, 3, none⟩ = false := (hb_w1.frozen (by first | assumption | (simp; done) | (simp; omega))).trans (by first | assumption | (simp; done) | (simp [go_sem]; done) | (simp [*]; done))
  clear hb_w1
  go_wp2_with fail
  refine (H2.out _).mono ?_
  rintro r_w2 w2 ⟨rfl, hb_w2⟩
  have B_w2 : Below w.heap.size w w2 := by first | exact B_w1.trans (hb_w2.mono B_w1.size) | exact (B_w1.alloc B_w1.size _).trans (hb_w2.mono (by have := B_w1.size; simp; omega)) | exact ((B_w1.alloc B_w1.size _).alloc (by have := B_w1.size; simp; omega) _).trans (hb_w2.mono (by have := B_w1.size; simp; omega)) | (have := B_w1.size; exact Below.trans (by go_grown) (hb_w2.mono (by simp; omega)))
  have z_w2_0 : w.heap.size < w2.heap.size := by have := hb_w2.size; first | omega | (simp at this; omega)
  have c_w2_0_0 : w2.cell? ⟨w.heap.size, 0, none⟩ = some (.int .i64 0) := (hb_w2.cell (by first | assumption | (simp; done) | (simp; omega))).trans (by first | assumption | (simp; done) | (simp [go_sem]; done) | (simp [*]; done) | ((repeat rw [World.cell?_alloc_lt _ _ _ (by first | (simp; done) | (simp; omega) | omega)]); first | assumption | (simp; done)))
  have c_w2_0_1 : w2.cell? ⟨w.heap.size, 1, none⟩ = some (.int .i64 (0)) := (hb_w2.cell (by first | assumption | (simp; done) | (simp; omega))).trans (by first | assumption | (simp; done) | (simp [go_sem]; done) | (simp [*]; done) | ((repeat rw [World.cell?_alloc_lt _ _ _ (by first | (simp; done) | (simp; omega) | omega)]); first | assumption | (simp; done)))
  have z_w2_1 : w.heap.size + 1 < w2.heap.size := by have := hb_w2.size; first | omega | (simp at this; omega)
  have c_w2_1_0 : w2.cell? ⟨w.heap.size + 1, 0, none⟩ = some (.int .i64 0) := (hb_w2.cell (by first | assumption | (simp; done) | (simp; omega))).trans (by first | assumption | (simp; done) | (simp [go_sem]; done) | (simp [*]; done) | ((repeat rw [World.cell?_alloc_lt _ _ _ (by first | (simp; done) | (simp; omega) | omega)]); first | assumption | (simp; done)))
  have c_w2_1_1 : w2.cell? ⟨w.heap.size + 1, 1, none⟩ = some (.int .i64 (0)) := (hb_w2.cell (by first | assumption | (simp; done) | (simp; omega))).trans (by first | assumption | (simp; done) | (simp [go_sem]; done) | (simp [*]; done) | ((repeat rw [World.cell?_alloc_lt _ _ _ (by first | (simp; done) | (simp; omega) | omega)]); first | assumption | (simp; done)))
  have z_w2_2 : w.heap.size + 1 + 1 < w2.heap.size := by have := hb_w2.size; first | omega | (simp at this; omega)
  have c_w2_2_0 : w2.cell? ⟨w.heap.size + 1 + 1, 0, none⟩ = some (.int .i64 0) := (hb_w2.cell (by first | assumption | (simp; done) | (simp; omega))).trans (by first | assumption | (simp; done) | (simp [go_sem]; done) | (simp [*]; done) | ((repeat rw [World.cell?_alloc_lt _ _ _ (by first | (simp; done) | (simp; omega) | omega)]); first | assumption | (simp; done)))
  have f_w2_2_0 : w2.frozen? ⟨w.heap.size + 1 + 1, 0, none⟩ = false := (hb_w2.frozen (by first | assumption | (simp; done) | (simp; omega))).trans (by first | assumption | (simp; done) | (simp [go_sem]; done) | (simp [*]; done))
  have c_w2_2_1 : w2.cell? ⟨w.heap.size + 1 + 1, 1, none⟩ = some (.int .i64 0) := (hb_w2.cell (by first | assumption | (simp; done) | (simp; omega))).trans (by first | assumption | (simp; done) | (simp [go_sem]; done) | (simp [*]; done) | ((repeat rw [World.cell?_alloc_lt _ _ _ (by first | (simp; done) | (simp; omega) | omega)]); first | assumption | (simp; done)))
  have f_w2_2_1 : w2.frozen? ⟨w.heap.size + 1 + 1, 1, none⟩ = false := (hb_w2.frozen (by first | assumption | (simp; done) | (simp; omega))).trans (by first | assumption | (simp; done) | (simp [go_sem]; done) | (simp [*]; done))
  have c_w2_2_2 : w2.cell? ⟨w.heap.size + 1 + 1, 2, none⟩ = some (.int .i64 0) := (hb_w2.cell (by first | assumption | (simp; done) | (simp; omega))).trans (by first | assumption | (simp; done) | (simp [go_sem]; done) | (simp [*]; done) | ((repeat rw [World.cell?_alloc_lt _ _ _ (by first | (simp; done) | (simp; omega) | omega)]); first | assumption | (simp; done)))
  have f_w2_2_2 : w2.frozen? ⟨w.heap.size + 1 + 1, 2, none⟩ = false := (hb_w2.frozen (by first | assumption | (simp; done) | (simp; omega))).trans (by first | assumption | (simp; done) | (simp [go_sem]; done) | (simp [*]; done))
  have c_w2_2_3 : w2.cell? ⟨w.heap.size + 1 + 1, 3, none⟩ = some (.int .i64 0) := (hb_w2.cell (by first | assumption | (simp; done) | (simp; omega))).trans (by first | assumption | (simp; done) | (simp [go_sem]; done) | (simp [*]; done) | ((repeat rw [World.cell?_alloc_lt _ _ _ (by first | (simp; done) | (simp; omega) | omega)]); first | assumption | (simp; done)))
  have f_w2_2_3 : w2.frozen? ⟨w.heap.size + 1 + 1, 3, none⟩ = false := (hb_w2.frozen (by first | assumption | (simp; done) | (simp; omega))).trans (by first | assumption | (simp; done) | (simp [go_sem]; done) | (simp [*]; done))
  clear c_w1_0_0 c_w1_0_1 c_w1_1_0 c_w1_1_1 c_w1_2_0 f_w1_2_0 c_w1_2_1 f_w1_2_1 c_w1_2_2 f_w1_2_2 c_w1_2_3 f_w1_2_3 z_w1_0 z_w1_1 z_w1_2 B_w1 hb_w2
  go_wp2_with fail
  go_quiet (fail)
  have hz3 : w.heap.size + 1 + 1 < (w2.drewN nq).heap.size := z_w2_2
  have hb3 : Below w.heap.size w (w2.drewN nq) := B_w2.trans (below_drewN _ _ _)
  clear x1 x2 x3
  go_wp2_with (go_at_call 64; refine (HX.out _).mono ?_; rintro e w' ⟨rfl, rfl⟩)
  refine bodyPost_ret (v := .tuple #[.agg #[.int .i64 1, .int .i64 (0), .int .i64 (0), .int .i64 0], .int .i64 0]) (by simp [results, Try.results18, go_sem, hm, c_w2_2_0, c_w2_2_1, c_w2_2_2, c_w2_2_3, z_w2_2]) rfl ⟨rfl, ?_⟩
  have hz := B_w2.size
  go_grown
set_option maxHeartbeats 1000000 in
theorem jr_01lt (dn : Int) (b1 : 1 ≤ dn) (b2 : dn ≤ 4294967295) (w : World) : Calls Try.prog 18 #[.agg #[.int .i64 0, .int .i64 (0)], .agg #[.int .i64 1, .int .i64 (dn)]] w fun r w' => r = .returned (.tuple #[.agg #[.int .i64 2, .int .i64 0, .int .i64 (0), .int .i64 2], .int .i64 0]) ∧ Below w.heap.size w w' := by
  have t1 := move_any 0 (0)
  have t2 := move_any 1 (dn)
  rw [show mvOk 0 (0) = true by unfold mvOk; simp <;> omega] at t1
  rw [show mvOk 1 (dn) = true by unfold mvOk; simp <;> omega] at t2
  have H1 := Lib.hid t1
  have H2 := Lib.hid t2
  have HX := Lib.hid ix_2
  have hm : min (0 : Int) (dn) = 0 := by omega
  have x1 := tab_0
  have x2 := tab_01
  have x3 := tab_012
  clear t1 t2
  go_enter Try.func18, Try.ntmps18
  go_wp2_with fail
  refine (H1.out _).mono ?_
  rintro r_w1 w1 ⟨rfl, hb_w1⟩
  have B_w1 : Below w.heap.size w w1 := by first | exact hb_w1 | exact ((Below.refl _ _).alloc (Nat.le_refl _) _).trans (hb_w1.mono (by simp)) | exact (((Below.refl _ _).alloc (Nat.le_refl _) _).alloc (by simp) _).trans (hb_w1.mono (by simp; omega)) | exact Below.trans (by go_grown) (hb_w1.mono (by simp; omega))
  have z_w1_0 : w.heap.size < w1.heap.size := by have := hb_w1.size; first | omega | (simp at this; omega)
  have c_w1_0_0 : w1.cell? ⟨w.heap.size, 0, none⟩ = some (.int .i64 0) := (hb_w1.cell (by first | assumption | (simp; done) | (simp; omega))).trans (by first | assumption | (simp; done) | (simp [go_sem]; done) | (simp [*]; done) | ((repeat rw [World.cell?_alloc_lt _ _ _ (by first | (simp; done) | (simp; omega) | omega)]); first | assumption | (simp; done)))
  have c_w1_0_1 : w1.cell? ⟨w.heap.size, 1, none⟩ = some (.int .i64 (0)) := (hb_w1.cell (by first | assumption | (simp; done) | (simp; omega))).trans (by first | assumption | (simp; done) | (simp [go_sem]; done) | (simp [*]; done) | ((repeat rw [World.cell?_alloc_lt _ _ _ (by first | (simp; done) | (simp; omega) | omega)]); first | assumption | (simp; done)))
  have z_w1_1 : w.heap.size + 1 < w1.heap.size := by have := hb_w1.size; first | omega | (simp at this; omega)
  have c_w1_1_0 : w1.cell? ⟨w.heap.size + 1, 0, none⟩ = some (.int .i64 1) := (hb_w1.cell (by first | assumption | (simp; done) | (simp; omega))).trans (by first | assumption | (simp; done) | (simp [go_sem]; done) | (simp [*]; done) | ((repeat rw [World.cell?_alloc_lt _ _ _ (by first | (simp; done) | (simp; omega) | omega)]); first | assumption | (simp; done)))
  have c_w1_1_1 : w1.cell? ⟨w.heap.size + 1, 1, none⟩ = some (.int .i64 (dn)) := (hb_w1.cell (by first | assumption | (simp; done) | (simp; omega))).trans (by first | assumption | (simp; done) | (simp [go_sem]; done) | (simp [*]; done) | ((repeat rw [World.cell?_alloc_lt _ _ _ (by first | (simp; done) | (simp; omega) | omega)]); first | assumption | (simp; done)))
  have z_w1_2 : w.heap.size + 1 + 1 < w1.heap.size := by have := hb_w1.size; first | omega | (simp at this; omega)
  have c_w1_2_0 : w1.cell? ⟨w.heap.size + 1 + 1, 0, none⟩ = some (.int .i64 0) := (hb_w1.cell (by first | assumption | (simp; done) | (simp; omega))).trans (by first | assumption | (simp; done) | (simp [go_sem]; done) | (simp [*]; done) | ((repeat rw [World.cell?_alloc_lt _ _ _ (by first | (simp; done) | (simp; omega) | omega)]); first | assumption | (simp; done)))
  have f_w1_2_0 : w1.frozen? ⟨w.heap.size + 1 + 1, 0, none⟩ = false := (hb_w1.frozen (by first | assumption | (simp; done) | (simp; omega))).trans (by first | assumption | (simp; done) | (simp [go_sem]; done) | (simp [*]; done))
  have c_w1_2_1 : w1.cell? ⟨w.heap.size + 1 + 1, 1, none⟩ = some (.int .i64 0) := (hb_w1.cell (by first | assumption | (simp; done) | (simp; omega))).trans (by first | assumption | (simp; done) | (simp [go_sem]; done) | (simp [*]; done) | ((repeat rw [World.cell?_alloc_lt _ _ _ (by first | (simp; done) | (simp; omega) | omega)]); first | assumption | (simp; done)))
  have f_w1_2_1 : w1.frozen? ⟨w.heap.size + 1 + 1, 1, none⟩ = false := (hb_w1.frozen (by first | assumption | (simp; done) | (simp; omega))).trans (by first | assumption | (simp; done) | (simp [go_sem]; done) | (simp [*]; done))
  have c_w1_2_2 : w1.cell? ⟨w.heap.size + 1 + 1, 2, none⟩ = some (.int .i64 0) := (hb_w1.cell (by first | assumption | (simp; done) | (simp; omega))).trans (by first | assumption | (simp; done) | (simp [go_sem]; done) | (simp [*]; done) | ((repeat rw [World.cell?_alloc_lt _ _ _ (by first | (simp; done) | (simp; omega) | omega)]); first | assumption | (simp; done)))
  have f_w1_2_2 : w1.frozen? ⟨w.heap.size + 1 + 1, 2, none⟩ = false := (hb_w1.frozen (by first | assumption | (simp; done) | (simp; omega))).trans (by first | assumption | (simp; done) | (simp [go_sem]; done) | (simp [*]; done))
  have c_w1_2_3 : w1.cell? ⟨w.heap.size + 1 + 1, 3, none⟩ = some (.int .i64 0) := (hb_w1.cell (by first | assumption | (simp; done) | (simp; omega))).trans (by first | assumption | (simp; done) | (simp [go_sem]; done) | (simp [*]; done) | ((repeat rw [World.cell?_alloc_lt _ _ _ (by first | (simp; done) | (simp; omega) | omega)]); first | assumption | (simp; done)))
  have f_w1_2_3 : w1.frozen? ⟨w.heap.size + 1 + 1, 3, none⟩ = false := (hb_w1.frozen (by first | assumption | (simp; done) | (simp; omega))).trans (by first | assumption | (simp; done) | (simp [go_sem]; done) | (simp [*]; done))
  clear hb_w1
  go_wp2_with fail
  refine (H2.out _).mono ?_
  rintro r_w2 w2 ⟨rfl, hb_w2⟩
  have B_w2 : Below w.heap.size w w2 := by first | exact B_w1.trans (hb_w2.mono B_w1.size) | exact (B_w1.alloc B_w1.size _).trans (hb_w2.mono (by have := B_w1.size; simp; omega)) | exact ((B_w1.alloc B_w1.size _).alloc (by have := B_w1.size; simp; omega) _).trans (hb_w2.mono (by have := B_w1.size; simp; omega)) | (have := B_w1.size; exact Below.trans (by go_grown) (hb_w2.mono (by simp; omega)))
  have z_w2_0 : w.heap.size < w2.heap.size := by have := hb_w2.size; first | omega | (simp at this; omega)
  have c_w2_0_0 : w2.cell? ⟨w.heap.size, 0, none⟩ = some (.int .i64 0) := (hb_w2.cell (by first | assumption | (simp; done) | (simp; omega))).trans (by first | assumption | (simp; done) | (simp [go_sem]; done) | (simp [*]; done) | ((repeat rw [World.cell?_alloc_lt _ _ _ (by first | (simp; done) | (simp; omega) | omega)]); first | assumption | (simp; done)))
  have c_w2_0_1 : w2.cell? ⟨w.heap.size, 1, none⟩ = some (.int .i64 (0)) := (hb_w2.cell (by first | assumption | (simp; done) | (simp; omega))).trans (by first | assumption | (simp; done) | (simp [go_sem]; done) | (simp [*]; done) | ((repeat rw [World.cell?_alloc_lt _ _ _ (by first | (simp; done) | (simp; omega) | omega)]); first | assumption | (simp; done)))
  have z_w2_1 : w.heap.size + 1 < w2.heap.size := by have := hb_w2.size; first | omega | (simp at this; omega)
  have c_w2_1_0 : w2.cell? ⟨w.heap.size + 1, 0, none⟩ = some (.int .i64 1) := (hb_w2.cell (by first | assumption | (simp; done) | (simp; omega))).trans (by first | assumption | (simp; done) | (simp [go_sem]; done) | (simp [*]; done) | ((repeat rw [World.cell?_alloc_lt _ _ _ (by first | (simp; done) | (simp; omega) | omega)]); first | assumption | (simp; done)))
  have c_w2_1_1 : w2.cell? ⟨w.heap.size + 1, 1, none⟩ = some (.int .i64 (dn)) := (hb_w2.cell (by first | assumption | (simp; done) | (simp; omega))).trans (by first | assumption | (simp; done) | (simp [go_sem]; done) | (simp [*]; done) | ((repeat rw [World.cell?_alloc_lt _ _ _ (by first | (simp; done) | (simp; omega) | omega)]); first | assumption | (simp; done)))
  have z_w2_2 : w.heap.size + 1 + 1 < w2.heap.size := by have := hb_w2.size; first | omega | (simp at this; omega)
  have c_w2_2_0 : w2.cell? ⟨w.heap.size + 1 + 1, 0, none⟩ = some (.int .i64 0) := (hb_w2.cell (by first | assumption | (simp; done) | (simp; omega))).trans (by first | assumption | (simp; done) | (simp [go_sem]; done) | (simp [*]; done) | ((repeat rw [World.cell?_alloc_lt _ _ _ (by first | (simp; done) | (simp; omega) | omega)]); first | assumption | (simp; done)))
  have f_w2_2_0 : w2.frozen? ⟨w.heap.size + 1 + 1, 0, none⟩ = false := (hb_w2.frozen (by first | assumption | (simp; done) | (simp; omega))).trans (by first | assumption | (simp; done) | (simp [go_sem]; done) | (simp [*]; done))
  have c_w2_2_1 : w2.cell? ⟨w.heap.size + 1 + 1, 1, none⟩ = some (.int .i64 0) := (hb_w2.cell (by first | assumption | (simp; done) | (simp; omega))).trans (by first | assumption | (simp; done) | (simp [go_sem]; done) | (simp [*]; done) | ((repeat rw [World.cell?_alloc_lt _ _ _ (by first | (simp; done) | (simp; omega) | omega)]); first | assumption | (simp; done)))
  have f_w2_2_1 : w2.frozen? ⟨w.heap.size + 1 + 1, 1, none⟩ = false := (hb_w2.frozen (by first | assumption | (simp; done) | (simp; omega))).trans (by first | assumption | (simp; done) | (simp [go_sem]; done) | (simp [*]; done))
  have c_w2_2_2 : w2.cell? ⟨w.heap.size + 1 + 1, 2, none⟩ = some (.int .i64 0) := (hb_w2.cell (by first | assumption | (simp; done) | (simp; omega))).trans (by first | assumption | (simp; done) | (simp [go_sem]; done) | (simp [*]; done) | ((repeat rw [World.cell?_alloc_lt _ _ _ (by first | (simp; done) | (simp; omega) | omega)]); first | assumption | (simp; done)))
  have f_w2_2_2 : w2.frozen? ⟨w.heap.size + 1 + 1, 2, none⟩ = false := (hb_w2.frozen (by first | assumption | (simp; done) | (simp; omega))).trans (by first | assumption | (simp; done) | (simp [go_sem]; done) | (simp [*]; done))
  have c_w2_2_3 : w2.cell? ⟨w.heap.size + 1 + 1, 3, none⟩ = some (.int .i64 0) := (hb_w2.cell (by first | assumption | (simp; done) | (simp; omega))).trans (by first | assumption | (simp; done) | (simp [go_sem]; done) | (simp [*]; done) | ((repeat rw [World.cell?_alloc_lt _ _ _ (by first | (simp; done) | (simp; omega) | omega)]); first | assumption | (simp; done)))
  have f_w2_2_3 : w2.frozen? ⟨w.heap.size + 1 + 1, 3, none⟩ = false := (hb_w2.frozen (by first | assumption | (simp; done) | (simp; omega))).trans (by first | assumption | (simp; done) | (simp [go_sem]; done) | (simp [*]; done))
  clear c_w1_0_0 c_w1_0_1 c_w1_1_0 c_w1_1_1 c_w1_2_0 f_w1_2_0 c_w1_2_1 f_w1_2_1 c_w1_2_2 f_w1_2_2 c_w1_2_3 f_w1_2_3 z_w1_0 z_w1_1 z_w1_2 B_w1 hb_w2
  go_wp2_with fail
  go_quiet (fail)
  have hz3 : w.heap.size + 1 + 1 < (w2.drewN nq).heap.size := z_w2_2
  have hb3 : Below w.heap.size w (w2.drewN nq) := B_w2.trans (below_drewN _ _ _)
  clear x1 x2 x3
  go_wp2_with (go_at_call 64; refine (HX.out _).mono ?_; rintro e w' ⟨rfl, rfl⟩)
  refine bodyPost_ret (v := .tuple #[.agg #[.int .i64 2, .int .i64 0, .int .i64 (0), .int .i64 2], .int .i64 0]) (by simp [results, Try.results18, go_sem, hm, c_w2_2_0, c_w2_2_1, c_w2_2_2, c_w2_2_3, z_w2_2]) rfl ⟨rfl, ?_⟩
  have hz := B_w2.size
  go_grown
set_option maxHeartbeats 1000000 in
theorem jr_02lt (dn : Int) (b1 : 1 ≤ dn) (b2 : dn ≤ 4294967295) (w : World) : Calls Try.prog 18 #[.agg #[.int .i64 0, .int .i64 (0)], .agg #[.int .i64 2, .int .i64 (dn)]] w fun r w' => r = .returned (.tuple #[.agg #[.int .i64 3, .int .i64 0, .int .i64 (0), .int .i64 2], .int .i64 0]) ∧ Below w.heap.size w w' := by
  have t1 := move_any 0 (0)
  have t2 := move_any 2 (dn)
  rw [show mvOk 0 (0) = true by unfold mvOk; simp <;> omega] at t1
  rw [show mvOk 2 (dn) = true by unfold mvOk; simp <;> omega] at t2
  have H1 := Lib.hid t1
  have H2 := Lib.hid t2
  have HX := Lib.hid ix_3
  have hm : min (0 : Int) (dn) = 0 := by omega
  have x1 := tab_0
  have x2 := tab_02
  have x3 := tab_022
  clear t1 t2
  go_enter Try.func18, Try.ntmps18
  go_wp2_with fail
  refine (H1.out _).mono ?_
  rintro r_w1 w1 ⟨rfl, hb_w1⟩
  have B_w1 : Below w.heap.size w w1 := by first | exact hb_w1 | exact ((Below.refl _ _).alloc (Nat.le_refl _) _).trans (hb_w1.mono (by simp)) | exact (((Below.refl _ _).alloc (Nat.le_refl _) _).alloc (by simp) _).trans (hb_w1.mono (by simp; omega)) | exact Below.trans (by go_grown) (hb_w1.mono (by simp; omega))
  have z_w1_0 : w.heap.size < w1.heap.size := by have := hb_w1.size; first | omega | (simp at this; omega)
  have c_w1_0_0 : w1.cell? ⟨w.heap.size, 0, none⟩ = some (.int .i64 0) := (hb_w1.cell (by first | assumption | (simp; done) | (simp; omega))).trans (by first | assumption | (simp; done) | (simp [go_sem]; done) | (simp [*]; done) | ((repeat rw [World.cell?_alloc_lt _ _ _ (by first | (simp; done) | (simp; omega) | omega)]); first | assumption | (simp; done)))
  have c_w1_0_1 : w1.cell? ⟨w.heap.size, 1, none⟩ = some (.int .i64 (0)) := (hb_w1.cell (by first | assumption | (simp; done) | (simp; omega))).trans (by first | assumption | (simp; done) | (simp [go_sem]; done) | (simp [*]; done) | ((repeat rw [World.cell?_alloc_lt _ _ _ (by first | (simp; done) | (simp; omega) | omega)]); first | assumption | (simp; done)))
  have z_w1_1 : w.heap.size + 1 < w1.heap.size := by have := hb_w1.size; first | omega | (simp at this; omega)
  have c_w1_1_0 : w1.cell? ⟨w.heap.size + 1, 0, none⟩ = some (.int .i64 2) := (hb_w1.cell (by first | assumption | (simp; done) | (simp; omega))).trans (by first | assumption | (simp; done) | (simp [go_sem]; done) | (simp [*]; done) | ((repeat rw [World.cell?_alloc_lt _ _ _ (by first | (simp; done) | (simp; omega) | omega)]); first | assumption | (simp; done)))
  have c_w1_1_1 : w1.cell? ⟨w.heap.size + 1, 1, none⟩ = some (.int .i64 (dn)) := (hb_w1.cell (by first | assumption | (simp; done) | (simp; omega))).trans (by first | assumption | (simp; done) | (simp [go_sem]; done) | (simp [*]; done) | ((repeat rw [World.cell?_alloc_lt _ _ _ (by first | (simp; done) | (simp; omega) | omega)]); first | assumption | (simp; done)))
  have z_w1_2 : w.heap.size + 1 + 1 < w1.heap.size := by have := hb_w1.size; first | omega | (simp at this; omega)
  have c_w1_2_0 : w1.cell? ⟨w.heap.size + 1 + 1, 0, none⟩ = some (.int .i64 0) := (hb_w1.cell (by first | assumption | (simp; done) | (simp; omega))).trans (by first | assumption | (simp; done) | (simp [go_sem]; done) | (simp [*]; done) | ((repeat rw [World.cell?_alloc_lt _ _ _ (by first | (simp; done) | (simp; omega) | omega)]); first | assumption | (simp; done)))
  have f_w1_2_0 : w1.frozen? ⟨w.heap.size + 1 + 1, 0, none⟩ = false := (hb_w1.frozen (by first | assumption | (simp; done) | (simp; omega))).trans (by first | assumption | (simp; done) | (simp [go_sem]; done) | (simp [*]; done))
  have c_w1_2_1 : w1.cell? ⟨w.heap.size + 1 + 1, 1, none⟩ = some (.int .i64 0) := (hb_w1.cell (by first | assumption | (simp; done) | (simp; omega))).trans (by first | assumption | (simp; done) | (simp [go_sem]; done) | (simp [*]; done) | ((repeat rw [World.cell?_alloc_lt _ _ _ (by first | (simp; done) | (simp; omega) | omega)]); first | assumption | (simp; done)))
  have f_w1_2_1 : w1.frozen? ⟨w.heap.size + 1 + 1, 1, none⟩ = false := (hb_w1.frozen (by first | assumption | (simp; done) | (simp; omega))).trans (by first | assumption | (simp; done) | (simp [go_sem]; done) | (simp [*]; done))
  have c_w1_2_2 : w1.cell? ⟨w.heap.size + 1 + 1, 2, none⟩ = some (.int .i64 0) := (hb_w1.cell (by first | assumption | (simp; done) | (simp; omega))).trans (by first | assumption | (simp; done) | (simp [go_sem]; done) | (simp [*]; done) | ((repeat rw [World.cell?_alloc_lt _ _ _ (by first | (simp; done) | (simp; omega) | omega)]); first | assumption | (simp; done)))
  have f_w1_2_2 : w1.frozen? ⟨w.heap.size + 1 + 1, 2, none⟩ = false := (hb_w1.frozen (by first | assumption | (simp; done) | (simp; omega))).trans (by first | assumption | (simp; done) | (simp [go_sem]; done) | (simp [*]; done))
  have c_w1_2_3 : w1.cell? ⟨w.heap.size + 1 + 1, 3, none⟩ = some (.int .i64 0) := (hb_w1.cell (by first | assumption | (simp; done) | (simp; omega))).trans (by first | assumption | (simp; done) | (simp [go_sem]; done) | (simp [*]; done) | ((repeat rw [World.cell?_alloc_lt _ _ _ (by first | (simp; done) | (simp; omega) | omega)]); first | assumption | (simp; done)))
  have f_w1_2_3 : w1.frozen? ⟨w.heap.size + 1 + 1, 3, none⟩ = false := (hb_w1.frozen (by first | assumption | (simp; done) | (simp; omega))).trans (by first | assumption | (simp; done) | (simp [go_sem]; done) | (simp [*]; done))
  clear hb_w1
  go_wp2_with fail
  refine (H2.out _).mono ?_
  rintro r_w2 w2 ⟨rfl, hb_w2⟩
  have B_w2 : Below w.heap.size w w2 := by first | exact B_w1.trans (hb_w2.mono B_w1.size) | exact (B_w1.alloc B_w1.size _).trans (hb_w2.mono (by have := B_w1.size; simp; omega)) | exact ((B_w1.alloc B_w1.size _).alloc (by have := B_w1.size; simp; omega) _).trans (hb_w2.mono (by have := B_w1.size; simp; omega)) | (have := B_w1.size; exact Below.trans (by go_grown) (hb_w2.mono (by simp; omega)))
  have z_w2_0 : w.heap.size < w2.heap.size := by have := hb_w2.size; first | omega | (simp at this; omega)
  have c_w2_0_0 : w2.cell? ⟨w.heap.size, 0, none⟩ = some (.int .i64 0) := (hb_w2.cell (by first | assumption | (simp; done) | (simp; omega))).trans (by first | assumption | (simp; done) | (simp [go_sem]; done) | (simp [*]; done) | ((repeat rw [World.cell?_alloc_lt _ _ _ (by first | (simp; done) | (simp; omega) | omega)]); first | assumption | (simp; done)))
  have c_w2_0_1 : w2.cell? ⟨w.heap.size, 1, none⟩ = some (.int .i64 (0)) := (hb_w2.cell (by first | assumption | (simp; done) | (simp; omega))).trans (by first | assumption | (simp; done) | (simp [go_sem]; done) | (simp [*]; done) | ((repeat rw [World.cell?_alloc_lt _ _ _ (by first | (simp; done) | (simp; omega) | omega)]); first | assumption | (simp; done)))
  have z_w2_1 : w.heap.size + 1 < w2.heap.size := by have := hb_w2.size; first | omega | (simp at this; omega)
  have c_w2_1_0 : w2.cell? ⟨w.heap.size + 1, 0, none⟩ = some (.int .i64 2) := (hb_w2.cell (by first | assumption | (simp; done) | (simp; omega))).trans (by first | assumption | (simp; done) | (simp [go_sem]; done) | (simp [*]; done) | ((repeat rw [World.cell?_alloc_lt _ _ _ (by first | (simp; done) | (simp; omega) | omega)]); first | assumption | (simp; done)))
  have c_w2_1_1 : w2.cell? ⟨w.heap.size + 1, 1, none⟩ = some (.int .i64 (dn)) := (hb_w2.cell (by first | assumption | (simp; done) | (simp; omega))).trans (by first | assumption | (simp; done) | (simp [go_sem]; done) | (simp [*]; done) | ((repeat rw [World.cell?_alloc_lt _ _ _ (by first | (simp; done) | (simp; omega) | omega)]); first | assumption | (simp; done)))
  have z_w2_2 : w.heap.size + 1 + 1 < w2.heap.size := by have := hb_w2.size; first | omega | (simp at this; omega)
  have c_w2_2_0 : w2.cell? ⟨w.heap.size + 1 + 1, 0, none⟩ = some (.int .i64 0) := (hb_w2.cell (by first | assumption | (simp; done) | (simp; omega))).trans (by first | assumption | (simp; done) | (simp [go_sem]; done) | (simp [*]; done) | ((repeat rw [World.cell?_alloc_lt _ _ _ (by first | (simp; done) | (simp; omega) | omega)]); first | assumption | (simp; done)))
  have f_w2_2_0 : w2.frozen? ⟨w.heap.size + 1 + 1, 0, none⟩ = false := (hb_w2.frozen (by first | assumption | (simp; done) | (simp; omega))).trans (by first | assumption | (simp; done) | (simp [go_sem]; done) | (simp [*]; done))
  have c_w2_2_1 : w2.cell? ⟨w.heap.size + 1 + 1, 1, none⟩ = some (.int .i64 0) := (hb_w2.cell (by first | assumption | (simp; done) | (simp; omega))).trans (by first | assumption | (simp; done) | (simp [go_sem]; done) | (simp [*]; done) | ((repeat rw [World.cell?_alloc_lt _ _ _ (by first | (simp; done) | (simp; omega) | omega)]); first | assumption | (simp; done)))
  have f_w2_2_1 : w2.frozen? ⟨w.heap.size + 1 + 1, 1, none⟩ = false := (hb_w2.frozen (by first | assumption | (simp; done) | (simp; omega))).trans (by first | assumption | (simp; done) | (simp [go_sem]; done) | (simp [*]; done))
  have c_w2_2_2 : w2.cell? ⟨w.heap.size + 1 + 1, 2, none⟩ = some (.int .i64 0) := (hb_w2.cell (by first | assumption | (simp; done) | (simp; omega))).trans (by first | assumption | (simp; done) | (simp [go_sem]; done) | (simp [*]; done) | ((repeat rw [World.cell?_alloc_lt _ _ _ (by first | (simp; done) | (simp; omega) | omega)]); first | assumption | (simp; done)))
  have f_w2_2_2 : w2.frozen? ⟨w.heap.size + 1 + 1, 2, none⟩ = false := (hb_w2.frozen (by first | assumption | (simp; done) | (simp; omega))).trans (by first | assumption | (simp; done) | (simp [go_sem]; done) | (simp [*]; done))
  have c_w2_2_3 : w2.cell? ⟨w.heap.size + 1 + 1, 3, none⟩ = some (.int .i64 0) := (hb_w2.cell (by first | assumption | (simp; done) | (simp; omega))).trans (by first | assumption | (simp; done) | (simp [go_sem]; done) | (simp [*]; done) | ((repeat rw [World.cell?_alloc_lt _ _ _ (by first | (simp; done) | (simp; omega) | omega)]); first | assumption | (simp; done)))
  have f_w2_2_3 : w2.frozen? ⟨w.heap.size + 1 + 1, 3, none⟩ = false := (hb_w2.frozen (by first | assumption | (simp; done) | (simp; omega))).trans (by first | assumption | (simp; done) | (simp [go_sem]; done) | (simp [*]; done))
  clear c_w1_0_0 c_w1_0_1 c_w1_1_0 c_w1_1_1 c_w1_2_0 f_w1_2_0 c_w1_2_1 f_w1_2_1 c_w1_2_2 f_w1_2_2 c_w1_2_3 f_w1_2_3 z_w1_0 z_w1_1 z_w1_2 B_w1 hb_w2
  go_wp2_with fail
  go_quiet (fail)
  have hz3 : w.heap.size + 1 + 1 < (w2.drewN nq).heap.size := z_w2_2
  have hb3 : Below w.heap.size w (w2.drewN nq) := B_w2.trans (below_drewN _ _ _)
  clear x1 x2 x3
  go_wp2_with (go_at_call 64; refine (HX.out _).mono ?_; rintro e w' ⟨rfl, rfl⟩)
  refine bodyPost_ret (v := .tuple #[.agg #[.int .i64 3, .int .i64 0, .int .i64 (0), .int .i64 2], .int .i64 0]) (by simp [results, Try.results18, go_sem, hm, c_w2_2_0, c_w2_2_1, c_w2_2_2, c_w2_2_3, z_w2_2]) rfl ⟨rfl, ?_⟩
  have hz := B_w2.size
  go_grown
set_option maxHeartbeats 1000000 in
theorem jr_10gt (hn : Int) (a1 : 1 ≤ hn) (a2 : hn ≤ 4294967295) (w : World) : Calls Try.prog 18 #[.agg #[.int .i64 1, .int .i64 (hn)], .agg #[.int .i64 0, .int .i64 (0)]] w fun r w' => r = .returned (.tuple #[.agg #[.int .i64 4, .int .i64 (0), .int .i64 (hn), .int .i64 0], .int .i64 0]) ∧ Below w.heap.size w w' := by
  have t1 := move_any 1 (hn)
  have t2 := move_any 0 (0)
  rw [show mvOk 1 (hn) = true by unfold mvOk; simp <;> omega] at t1
  rw [show mvOk 0 (0) = true by unfold mvOk; simp <;> omega] at t2
  have H1 := Lib.hid t1
  have H2 := Lib.hid t2
  have HX := Lib.hid ix_4
  have hm : min (hn : Int) (0) = 0 := by omega
  have x1 := tab_1
  have x2 := tab_10
  have x3 := tab_100
  clear t1 t2
  go_enter Try.func18, Try.ntmps18
  go_wp2_with fail
  refine (H1.out _).mono ?_
  rintro r_w1 w1 ⟨rfl, hb_w1⟩
  have B_w1 : Below w.heap.size w w1 := by first | exact hb_w1 | exact ((Below.refl _ _).alloc (Nat.le_refl _) _).trans (hb_w1.mono (by simp)) | exact (((Below.refl _ _).alloc (Nat.le_refl _) _).alloc (by simp) _).trans (hb_w1.mono (by simp; omega)) | exact Below.trans (by go_grown) (hb_w1.mono (by simp; omega))
  have z_w1_0 : w.heap.size < w1.heap.size := by have := hb_w1.size; first | omega | (simp at this; omega)
  have c_w1_0_0 : w1.cell? ⟨w.heap.size, 0, none⟩ = some (.int .i64 1) := (hb_w1.cell (by first | assumption | (simp; done) | (simp; omega))).trans (by first | assumption | (simp; done) | (simp [go_sem]; done) | (simp [*]; done) | ((repeat rw [World.cell?_alloc_lt _ _ _ (by first | (simp; done) | (simp; omega) | omega)]); first | assumption | (simp; done)))
  have c_w1_0_1 : w1.cell? ⟨w.heap.size, 1, none⟩ = some (.int .i64 (hn)) := (hb_w1.cell (by first | assumption | (simp; done) | (simp; omega))).trans (by first | assumption | (simp; done) | (simp [go_sem]; done) | (simp [*]; done) | ((repeat rw [World.cell?_alloc_lt _ _ _ (by first | (simp; done) | (simp; omega) | omega)]); first | assumption | (simp; done)))
  have z_w1_1 : w.heap.size + 1 < w1.heap.size := by have := hb_w1.size; first | omega | (simp at this; omega)
  have c_w1_1_0 : w1.cell? ⟨w.heap.size + 1, 0, none⟩ = some (.int .i64 0) := (hb_w1.cell (by first | assumption | (simp; done) | (simp; omega))).trans (by first | assumption | (simp; done) | (simp [go_sem]; done) | (simp [*]; done) | ((repeat rw [World.cell?_alloc_lt _ _ _ (by first | (simp; done) | (simp; omega) | omega)]); first | assumption | (simp; done)))
  have c_w1_1_1 : w1.cell? ⟨w.heap.size + 1, 1, none⟩ = some (.int .i64 (0)) := (hb_w1.cell (by first | assumption | (simp; done) | (simp; omega))).trans (by first | assumption | (simp; done) | (simp [go_sem]; done) | (simp [*]; done) | ((repeat rw [World.cell?_alloc_lt _ _ _ (by first | (simp; done) | (simp; omega) | omega)]); first | assumption | (simp; done)))
  have z_w1_2 : w.heap.size + 1 + 1 < w1.heap.size := by have := hb_w1.size; first | omega | (simp at this; omega)
  have c_w1_2_0 : w1.cell? ⟨w.heap.size + 1 + 1, 0, none⟩ = some (.int .i64 0) := (hb_w1.cell (by first | assumption | (simp; done) | (simp; omega))).trans (by first | assumption | (simp; done) | (simp [go_sem]; done) | (simp [*]; done) | ((repeat rw [World.cell?_alloc_lt _ _ _ (by first | (simp; done) | (simp; omega) | omega)]); first | assumption | (simp; done)))
  have f_w1_2_0 : w1.frozen? ⟨w.heap.size + 1 + 1, 0, none⟩ = false := (hb_w1.frozen (by first | assumption | (simp; done) | (simp; omega))).trans (by first | assumption | (simp; done) | (simp [go_sem]; done) | (simp [*]; done))
  have c_w1_2_1 : w1.cell? ⟨w.heap.size + 1 + 1, 1, none⟩ = some (.int .i64 0) := (hb_w1.cell (by first | assumption | (simp; done) | (simp; omega))).trans (by first | assumption | (simp; done) | (simp [go_sem]; done) | (simp [*]; done) | ((repeat rw [World.cell?_alloc_lt _ _ _ (by first | (simp; done) | (simp; omega) | omega)]); first | assumption | (simp; done)))
  have f_w1_2_1 : w1.frozen? ⟨w.heap.size + 1 + 1, 1, none⟩ = false := (hb_w1.frozen (by first | assumption | (simp; done) | (simp; omega))).trans (by first | assumption | (simp; done) | (simp [go_sem]; done) | (simp [*]; done))
  have c_w1_2_2 : w1.cell? ⟨w.heap.size + 1 + 1, 2, none⟩ = some (.int .i64 0) := (hb_w1.cell (by first | assumption | (simp; done) | (simp; omega))).trans (by first | assumption | (simp; done) | (simp [go_sem]; done) | (simp [*]; done) | ((repeat rw [World.cell?_alloc_lt _ _ _ (by first | (simp; done) | (simp; omega) | omega)]); first | assumption | (simp; done)))
  have f_w1_2_2 : w1.frozen? ⟨w.heap.size + 1 + 1, 2, none⟩ = false := (hb_w1.frozen (by first | assumption | (simp; done) | (simp; omega))).trans (by first | assumption | (simp; done) | (simp [go_sem]; done) | (simp [*]; done))
  have c_w1_2_3 : w1.cell? ⟨w.heap.size + 1 + 1, 3, none⟩ = some (.int .i64 0) := (hb_w1.cell (by first | assumption | (simp; done) | (simp; omega))).trans (by first | assumption | (simp; done) | (simp [go_sem]; done) | (simp [*]; done) | ((repeat rw [World.cell?_alloc_lt _ _ _ (by first | (simp; done) | (simp; omega) | omega)]); first | assumption | (simp; done)))
  have f_w1_2_3 : w1.frozen? ⟨w.heap.size + 1 + 1, 3, none⟩ = false := (hb_w1.frozen (by first | assumption | (simp; done) | (simp; omega))).trans (by first | assumption | (simp; done) | (simp [go_sem]; done) | (simp [*]; done))
  clear hb_w1
  go_wp2_with fail
  refine (H2.out _).mono ?_
  rintro r_w2 w2 ⟨rfl, hb_w2⟩
  have B_w2 : Below w.heap.size w w2 := by first | exact B_w1.trans (hb_w2.mono B_w1.size) | exact (B_w1.alloc B_w1.size _).trans (hb_w2.mono (by have := B_w1.size; simp; omega)) | exact ((B_w1.alloc B_w1.size _).alloc (by have := B_w1.size; simp; omega) _).trans (hb_w2.mono (by have := B_w1.size; simp; omega)) | (have := B_w1.size; exact Below.trans (by go_grown) (hb_w2.mono (by simp; omega)))
  have z_w2_0 : w.heap.size < w2.heap.size := by have := hb_w2.size; first | omega | (simp at this; omega)
  have c_w2_0_0 : w2.cell? ⟨w.heap.size, 0, none⟩ = some (.int .i64 1) := (hb_w2.cell (by first | assumption | (simp; done) | (simp; omega))).trans (by first | assumption | (simp; done) | (simp [go_sem]; done) | (simp [*]; done) | ((repeat rw [World.cell?_alloc_lt _ _ _ (by first | (simp; done) | (simp; omega) | omega)]); first | assumption | (simp; done)))
  have c_w2_0_1 : w2.cell? ⟨w.heap.size, 1, none⟩ = some (.int .i64 (hn)) := (hb_w2.cell (by first | assumption | (simp; done) | (simp; omega))).trans (by first | assumption | (simp; done) | (simp [go_sem]; done) | (simp [*]; done) | ((repeat rw [World.cell?_alloc_lt _ _ _ (by first | (simp; done) | (simp; omega) | omega)]); first | assumption | (simp; done)))
  have z_w2_1 : w.heap.size + 1 < w2.heap.size := by have := hb_w2.size; first | omega | (simp at this; omega)
  have c_w2_1_0 : w2.cell? ⟨w.heap.size + 1, 0, none⟩ = some (.int .i64 0) := (hb_w2.cell (by first | assumption | (simp; done) | (simp; omega))).trans (by first | assumption | (simp; done) | (simp [go_sem]; done) | (simp [*]; done) | ((repeat rw [World.cell?_alloc_lt _ _ _ (by first | (simp; done) | (simp; omega) | omega)]); first | assumption | (simp; done)))
  have c_w2_1_1 : w2.cell? ⟨w.heap.size + 1, 1, none⟩ = some (.int .i64 (0)) := (hb_w2.cell (by first | assumption | (simp; done) | (simp; omega))).trans (by first | assumption | (simp; done) | (simp [go_sem]; done) | (simp [*]; done) | ((repeat rw [World.cell?_alloc_lt _ _ _ (by first | (simp; done) | (simp; omega) | omega)]); first | assumption | (simp; done)))
  have z_w2_2 : w.heap.size + 1 + 1 < w2.heap.size := by have := hb_w2.size; first | omega | (simp at this; omega)
  have c_w2_2_0 : w2.cell? ⟨w.heap.size + 1 + 1, 0, none⟩ = some (.int .i64 0) := (hb_w2.cell (by first | assumption | (simp; done) | (simp; omega))).trans (by first | assumption | (simp; done) | (simp [go_sem]; done) | (simp [*]; done) | ((repeat rw [World.cell?_alloc_lt _ _ _ (by first | (simp; done) | (simp; omega) | omega)]); first | assumption | (simp; done)))
  have f_w2_2_0 : w2.frozen? ⟨w.heap.size + 1 + 1, 0, none⟩ = false := (hb_w2.frozen (by first | assumption | (simp; done) | (simp; omega))).trans (by first | assumption | (simp; done) | (simp [go_sem]; done) | (simp [*]; done))
  have c_w2_2_1 : w2.cell? ⟨w.heap.size + 1 + 1, 1, none⟩ = some (.int .i64 0) := (hb_w2.cell (by first | assumption | (simp; done) | (simp; omega))).trans (by first | assumption | (simp; done) | (simp [go_sem]; done) | (simp [*]; done) | ((repeat rw [World.cell?_alloc_lt _ _ _ (by first | (simp; done) | (simp; omega) | omega)]); first | assumption | (simp; done)))
  have f_w2_2_1 : w2.frozen? ⟨w.heap.size + 1 + 1, 1, none⟩ = false := (hb_w2.frozen (by first | assumption | (simp; done) | (simp; omega))).trans (by first | assumption | (simp; done) | (simp [go_sem]; done) | (simp [*]; done))
  have c_w2_2_2 : w2.cell? ⟨w.heap.size + 1 + 1, 2, none⟩ = some (.int .i64 0) := (hb_w2.cell (by first | assumption | (simp; done) | (simp; omega))).trans (by first | assumption | (simp; done) | (simp [go_sem]; done) | (simp [*]; done) | ((repeat rw [World.cell?_alloc_lt _ _ _ (by first | (simp; done) | (simp; omega) | omega)]); first | assumption | (simp; done)))
  have f_w2_2_2 : w2.frozen? ⟨w.heap.size + 1 + 1, 2, none⟩ = false := (hb_w2.frozen (by first | assumption | (simp; done) | (simp; omega))).trans (by first | assumption | (simp; done) | (simp [go_sem]; done) | (simp [*]; done))
  have c_w2_2_3 : w2.cell? ⟨w.heap.size + 1 + 1, 3, none⟩ = some (.int .i64 0) := (hb_w2.cell (by first | assumption | (simp; done) | (simp; omega))).trans (by first | assumption | (simp; done) | (simp [go_sem]; done) | (simp [*]; done) | ((repeat rw [World.cell?_alloc_lt _ _ _ (by first | (simp; done) | (simp; omega) | omega)]); first | assumption | (simp; done)))
  have f_w2_2_3 : w2.frozen? ⟨w.heap.size + 1 + 1, 3, none⟩ = false := (hb_w2.frozen (by first | assumption | (simp; done) | (simp; omega))).trans (by first | assumption | (simp; done) | (simp [go_sem]; done) | (simp [*]; done))
  clear c_w1_0_0 c_w1_0_1 c_w1_1_0 c_w1_1_1 c_w1_2_0 f_w1_2_0 c_w1_2_1 f_w1_2_1 c_w1_2_2 f_w1_2_2 c_w1_2_3 f_w1_2_3 z_w1_0 z_w1_1 z_w1_2 B_w1 hb_w2
  go_wp2_with fail
  go_quiet (fail)
  have hz3 : w.heap.size + 1 + 1 < (w2.drewN nq).heap.size := z_w2_2
  have hb3 : Below w.heap.size w (w2.drewN nq) := B_w2.trans (below_drewN _ _ _)
  clear x1 x2 x3
  go_wp2_with (go_at_call 64; refine (HX.out _).mono ?_; rintro e w' ⟨rfl, rfl⟩)
  refine bodyPost_ret (v := .tuple #[.agg #[.int .i64 4, .int .i64 (0), .int .i64 (hn), .int .i64 0], .int .i64 0]) (by simp [results, Try.results18, go_sem, hm, c_w2_2_0, c_w2_2_1, c_w2_2_2, c_w2_2_3, z_w2_2]) rfl ⟨rfl, ?_⟩
  have hz := B_w2.size
  go_grown
set_option maxHeartbeats 1000000 in
theorem jr_11lt (hn : Int) (a1 : 1 ≤ hn) (a2 : hn ≤ 4294967295) (dn : Int) (b1 : 1 ≤ dn) (b2 : dn ≤ 4294967295) (hlt : hn < dn) (w : World) : Calls Try.prog 18 #[.agg #[.int .i64 1, .int .i64 (hn)], .agg #[.int .i64 1, .int .i64 (dn)]] w fun r w' => r = .returned (.tuple #[.agg #[.int .i64 7, .int .i64 0, .int .i64 (hn), .int .i64 2], .int .i64 0]) ∧ Below w.heap.size w w' := by
  have t1 := move_any 1 (hn)
  have t2 := move_any 1 (dn)
  rw [show mvOk 1 (hn) = true by unfold mvOk; simp <;> omega] at t1
  rw [show mvOk 1 (dn) = true by unfold mvOk; simp <;> omega] at t2
  have H1 := Lib.hid t1
  have H2 := Lib.hid t2
  have HX := Lib.hid ix_7
  have hm : min (hn : Int) (dn) = hn := by omega
  have x1 := tab_1
  have x2 := tab_11
  have x3 := tab_112
  clear t1 t2
  go_enter Try.func18, Try.ntmps18
  go_wp2_with fail
  refine (H1.out _).mono ?_
  rintro r_w1 w1 ⟨rfl, hb_w1⟩
  have B_w1 : Below w.heap.size w w1 := by first | exact hb_w1 | exact ((Below.refl _ _).alloc (Nat.le_refl _) _).trans (hb_w1.mono (by simp)) | exact (((Below.refl _ _).alloc (Nat.le_refl _) _).alloc (by simp) _).trans (hb_w1.mono (by simp; omega)) | exact Below.trans (by go_grown) (hb_w1.mono (by simp; omega))
  have z_w1_0 : w.heap.size < w1.heap.size := by have := hb_w1.size; first | omega | (simp at this; omega)
  have c_w1_0_0 : w1.cell? ⟨w.heap.size, 0, none⟩ = some (.int .i64 1) := (hb_w1.cell (by first | assumption | (simp; done) | (simp; omega))).trans (by first | assumption | (simp; done) | (simp [go_sem]; done) | (simp [*]; done) | ((repeat rw [World.cell?_alloc_lt _ _ _ (by first | (simp; done) | (simp; omega) | omega)]); first | assumption | (simp; done)))
  have c_w1_0_1 : w1.cell? ⟨w.heap.size, 1, none⟩ = some (.int .i64 (hn)) := (hb_w1.cell (by first | assumption | (simp; done) | (simp; omega))).trans (by first | assumption | (simp; done) | (simp [go_sem]; done) | (simp [*]; done) | ((repeat rw [World.cell?_alloc_lt _ _ _ (by first | (simp; done) | (simp; omega) | omega)]); first | assumption | (simp; done)))
  have z_w1_1 : w.heap.size + 1 < w1.heap.size := by have := hb_w1.size; first | omega | (simp at this; omega)
  have c_w1_1_0 : w1.cell? ⟨w.heap.size + 1, 0, none⟩ = some (.int .i64 1) := (hb_w1.cell (by first | assumption | (simp; done) | (simp; omega))).trans (by first | assumption | (simp; done) | (simp [go_sem]; done) | (simp [*]; done) | ((repeat rw [World.cell?_alloc_lt _ _ _ (by first | (simp; done) | (simp; omega) | omega)]); first | assumption | (simp; done)))
  have c_w1_1_1 : w1.cell? ⟨w.heap.size + 1, 1, none⟩ = some (.int .i64 (dn)) := (hb_w1.cell (by first | assumption | (simp; done) | (simp; omega))).trans (by first | assumption | (simp; done) | (simp [go_sem]; done) | (simp [*]; done) | ((repeat rw [World.cell?_alloc_lt _ _ _ (by first | (simp; done) | (simp; omega) | omega)]); first | assumption | (simp; done)))
  have z_w1_2 : w.heap.size + 1 + 1 < w1.heap.size := by have := hb_w1.size; first | omega | (simp at this; omega)
  have c_w1_2_0 : w1.cell? ⟨w.heap.size + 1 + 1, 0, none⟩ = some (.int .i64 0) := (hb_w1.cell (by first | assumption | (simp; done) | (simp; omega))).trans (by first | assumption | (simp; done) | (simp [go_sem]; done) | (simp [*]; done) | ((repeat rw [World.cell?_alloc_lt _ _ _ (by first | (simp; done) | (simp; omega) | omega)]); first | assumption | (simp; done)))
  have f_w1_2_0 : w1.frozen? ⟨w.heap.size + 1 + 1, 0, none⟩ = false := (hb_w1.frozen (by first | assumption | (simp; done) | (simp; omega))).trans (by first | assumption | (simp; done) | (simp [go_sem]; done) | (simp [*]; done))
  have c_w1_2_1 : w1.cell? ⟨w.heap.size + 1 + 1, 1, none⟩ = some (.int .i64 0) := (hb_w1.cell (by first | assumption | (simp; done) | (simp; omega))).trans (by first | assumption | (simp; done) | (simp [go_sem]; done) | (simp [*]; done) | ((repeat rw [World.cell?_alloc_lt _ _ _ (by first | (simp; done) | (simp; omega) | omega)]); first | assumption | (simp; done)))
  have f_w1_2_1 : w1.frozen? ⟨w.heap.size + 1 + 1, 1, none⟩ = false := (hb_w1.frozen (by first | assumption | (simp; done) | (simp; omega))).trans (by first | assumption | (simp; done) | (simp [go_sem]; done) | (simp [*]; done))
  have c_w1_2_2 : w1.cell? ⟨w.heap.size + 1 + 1, 2, none⟩ = some (.int .i64 0) := (hb_w1.cell (by first | assumption | (simp; done) | (simp; omega))).trans (by first | assumption | (simp; done) | (simp [go_sem]; done) | (simp [*]; done) | ((repeat rw [World.cell?_alloc_lt _ _ _ (by first | (simp; done) | (simp; omega) | omega)]); first | assumption | (simp; done)))
  have f_w1_2_2 : w1.frozen? ⟨w.heap.size + 1 + 1, 2, none⟩ = false := (hb_w1.frozen (by first | assumption | (simp; done) | (simp; omega))).trans (by first | assumption | (simp; done) | (simp [go_sem]; done) | (simp [*]; done))
  have c_w1_2_3 : w1.cell? ⟨w.heap.size + 1 + 1, 3, none⟩ = some (.int .i64 0) := (hb_w1.cell (by first | assumption | (simp; done) | (simp; omega))).trans (by first | assumption | (simp; done) | (simp [go_sem]; done) | (simp [*]; done) | ((repeat rw [World.cell?_alloc_lt _ _ _ (by first | (simp; done) | (simp; omega) | omega)]); first | assumption | (simp; done)))
  have f_w1_2_3 : w1.frozen? ⟨w.heap.size + 1 + 1, 3, none⟩ = false := (hb_w1.frozen (by first | assumption | (simp; done) | (simp; omega))).trans (by first | assumption | (simp; done) | (simp [go_sem]; done) | (simp [*]; done))
  clear hb_w1
  go_wp2_with fail
  refine (H2.out _).mono ?_
  rintro r_w2 w2 ⟨rfl, hb_w2⟩
  have B_w2 : Below w.heap.size w w2 := by first | exact B_w1.trans (hb_w2.mono B_w1.size) | exact (B_w1.alloc B_w1.size _).trans (hb_w2.mono (by have := B_w1.size; simp; omega)) | exact ((B_w1.alloc B_w1.size _).alloc (by have := B_w1.size; simp; omega) _).trans (hb_w2.mono (by have := B_w1.size; simp; omega)) | (have := B_w1.size; exact Below.trans (by go_grown) (hb_w2.mono (by simp; omega)))
  have z_w2_0 : w.heap.size < w2.heap.size := by have := hb_w2.size; first | omega | (simp at this; omega)
  have c_w2_0_0 : w2.cell? ⟨w.heap.size, 0, none⟩ = some (.int .i64 1) := (hb_w2.cell (by first | assumption | (simp; done) | (simp; omega))).trans (by first | assumption | (simp; done) | (simp [go_sem]; done) | (simp [*]; done) | ((repeat rw [World.cell?_alloc_lt _ _ _ (by first | (simp; done) | (simp; omega) | omega)]); first | assumption | (simp; done)))
  have c_w2_0_1 : w2.cell? ⟨w.heap.size, 1, none⟩ = some (.int .i64 (hn)) := (hb_w2.cell (by first | assumption | (simp; done) | (simp; omega))).trans (by first | assumption | (simp; done) | (simp [go_sem]; done) | (simp [*]; done) | ((repeat rw [World.cell?_alloc_lt _ _ _ (by first | (simp; done) | (simp; omega) | omega)]); first | assumption | (simp; done)))
  have z_w2_1 : w.heap.size + 1 < w2.heap.size := by have := hb_w2.size; first | omega | (simp at this; omega)
  have c_w2_1_0 : w2.cell? ⟨w.heap.size + 1, 0, none⟩ = some (.int .i64 1) := (hb_w2.cell (by first | assumption | (simp; done) | (simp; omega))).trans (by first | assumption | (simp; done) | (simp [go_sem]; done) | (simp [*]; done) | ((repeat rw [World.cell?_alloc_lt _ _ _ (by first | (simp; done) | (simp; omega) | omega)]); first | assumption | (simp; done)))
  have c_w2_1_1 : w2.cell? ⟨w.heap.size + 1, 1, none⟩ = some (.int .i64 (dn)) := (hb_w2.cell (by first | assumption | (simp; done) | (simp; omega))).trans (by first | assumption | (simp; done) | (simp [go_sem]; done) | (simp [*]; done) | ((repeat rw [World.cell?_alloc_lt _ _ _ (by first | (simp; done) | (simp; omega) | omega)]); first | assumption | (simp; done)))
  have z_w2_2 : w.heap.size + 1 + 1 < w2.heap.size := by have := hb_w2.size; first | omega | (simp at this; omega)
  have c_w2_2_0 : w2.cell? ⟨w.heap.size + 1 + 1, 0, none⟩ = some (.int .i64 0) := (hb_w2.cell (by first | assumption | (simp; done) | (simp; omega))).trans (by first | assumption | (simp; done) | (simp [go_sem]; done) | (simp [*]; done) | ((repeat rw [World.cell?_alloc_lt _ _ _ (by first | (simp; done) | (simp; omega) | omega)]); first | assumption | (simp; done)))
  have f_w2_2_0 : w2.frozen? ⟨w.heap.size + 1 + 1, 0, none⟩ = false := (hb_w2.frozen (by first | assumption | (simp; done) | (simp; omega))).trans (by first | assumption | (simp; done) | (simp [go_sem]; done) | (simp [*]; done))
  have c_w2_2_1 : w2.cell? ⟨w.heap.size + 1 + 1, 1, none⟩ = some (.int .i64 0) := (hb_w2.cell (by first | assumption | (simp; done) | (simp; omega))).trans (by first | assumption | (simp; done) | (simp [go_sem]; done) | (simp [*]; done) | ((repeat rw [World.cell?_alloc_lt _ _ _ (by first | (simp; done) | (simp; omega) | omega)]); first | assumption | (simp; done)))
  have f_w2_2_1 : w2.frozen? ⟨w.heap.size + 1 + 1, 1, none⟩ = false := (hb_w2.frozen (by first | assumption | (simp; done) | (simp; omega))).trans (by first | assumption | (simp; done) | (simp [go_sem]; done) | (simp [*]; done))
  have c_w2_2_2 : w2.cell? ⟨w.heap.size + 1 + 1, 2, none⟩ = some (.int .i64 0) := (hb_w2.cell (by first | assumption | (simp; done) | (simp; omega))).trans (by first | assumption | (simp; done) | (simp [go_sem]; done) | (simp [*]; done) | ((repeat rw [World.cell?_alloc_lt _ _ _ (by first | (simp; done) | (simp; omega) | omega)]); first | assumption | (simp; done)))
  have f_w2_2_2 : w2.frozen? ⟨w.heap.size + 1 + 1, 2, none⟩ = false := (hb_w2.frozen (by first | assumption | (simp; done) | (simp; omega))).trans (by first | assumption | (simp; done) | (simp [go_sem]; done) | (simp [*]; done))
  have c_w2_2_3 : w2.cell? ⟨w.heap.size + 1 + 1, 3, none⟩ = some (.int .i64 0) := (hb_w2.cell (by first | assumption | (simp; done) | (simp; omega))).trans (by first | assumption | (simp; done) | (simp [go_sem]; done) | (simp [*]; done) | ((repeat rw [World.cell?_alloc_lt _ _ _ (by first | (simp; done) | (simp; omega) | omega)]); first | assumption | (simp; done)))
  have f_w2_2_3 : w2.frozen? ⟨w.heap.size + 1 + 1, 3, none⟩ = false := (hb_w2.frozen (by first | assumption | (simp; done) | (simp; omega))).trans (by first | assumption | (simp; done) | (simp [go_sem]; done) | (simp [*]; done))
  clear c_w1_0_0 c_w1_0_1 c_w1_1_0 c_w1_1_1 c_w1_2_0 f_w1_2_0 c_w1_2_1 f_w1_2_1 c_w1_2_2 f_w1_2_2 c_w1_2_3 f_w1_2_3 z_w1_0 z_w1_1 z_w1_2 B_w1 hb_w2
  go_wp2_with fail
  go_quiet (fail)
  have hz3 : w.heap.size + 1 + 1 < (w2.drewN nq).heap.size := z_w2_2
  have hb3 : Below w.heap.size w (w2.drewN nq) := B_w2.trans (below_drewN _ _ _)
  clear x1 x2 x3
  go_wp2_with (go_at_call 64; refine (HX.out _).mono ?_; rintro e w' ⟨rfl, rfl⟩)
  refine bodyPost_ret (v := .tuple #[.agg #[.int .i64 7, .int .i64 0, .int .i64 (hn), .int .i64 2], .int .i64 0]) (by simp [results, Try.results18, go_sem, hm, c_w2_2_0, c_w2_2_1, c_w2_2_2, c_w2_2_3, z_w2_2]) rfl ⟨rfl, ?_⟩
  have hz := B_w2.size
  go_grown
set_option maxHeartbeats 1000000 in
theorem jr_11eq (hn : Int) (a1 : 1 ≤ hn) (a2 : hn ≤ 4294967295) (w : World) : Calls Try.prog 18 #[.agg #[.int .i64 1, .int .i64 (hn)], .agg #[.int .i64 1, .int .i64 (hn)]] w fun r w' => r = .returned (.tuple #[.agg #[.int .i64 6, .int .i64 (hn), .int .i64 (0), .int .i64 0], .int .i64 0]) ∧ Below w.heap.size w w' := by
  have t1 := move_any 1 (hn)
  have t2 := move_any 1 (hn)
  rw [show mvOk 1 (hn) = true by unfold mvOk; simp <;> omega] at t1
  rw [show mvOk 1 (hn) = true by unfold mvOk; simp <;> omega] at t2
  have H1 := Lib.hid t1
  have H2 := Lib.hid t2
  have HX := Lib.hid ix_6
  have hm : min (hn : Int) (hn) = hn := by omega
  have x1 := tab_1
  have x2 := tab_11
  have x3 := tab_111
  clear t1 t2
  go_enter Try.func18, Try.ntmps18
  go_wp2_with fail
  refine (H1.out _).mono ?_
  rintro r_w1 w1 ⟨rfl, hb_w1⟩
  have B_w1 : Below w.heap.size w w1 := by first | exact hb_w1 | exact ((Below.refl _ _).alloc (Nat.le_refl _) _).trans (hb_w1.mono (by simp)) | exact (((Below.refl _ _).alloc (Nat.le_refl _) _).alloc (by simp) _).trans (hb_w1.mono (by simp; omega)) | exact Below.trans (by go_grown) (hb_w1.mono (by simp; omega))
  have z_w1_0 : w.heap.size < w1.heap.size := by have := hb_w1.size; first | omega | (simp at this; omega)
  have c_w1_0_0 : w1.cell? ⟨w.heap.size, 0, none⟩ = some (.int .i64 1) := (hb_w1.cell (by first | assumption | (simp; done) | (simp; omega))).trans (by first | assumption | (simp; done) | (simp [go_sem]; done) | (simp [*]; done) | ((repeat rw [World.cell?_alloc_lt _ _ _ (by first | (simp; done) | (simp; omega) | omega)]); first | assumption | (simp; done)))
  have c_w1_0_1 : w1.cell? ⟨w.heap.size, 1, none⟩ = some (.int .i64 (hn)) := (hb_w1.cell (by first | assumption | (simp; done) | (simp; omega))).trans (by first | assumption | (simp; done) | (simp [go_sem]; done) | (simp [*]; done) | ((repeat rw [World.cell?_alloc_lt _ _ _ (by first | (simp; done) | (simp; omega) | omega)]); first | assumption | (simp; done)))
  have z_w1_1 : w.heap.size + 1 < w1.heap.size := by have := hb_w1.size; first | omega | (simp at this; omega)
  have c_w1_1_0 : w1.cell? ⟨w.heap.size + 1, 0, none⟩ = some (.int .i64 1) := (hb_w1.cell (by first | assumption | (simp; done) | (simp; omega))).trans (by first | assumption | (simp; done) | (simp [go_sem]; done) | (simp [*]; done) | ((repeat rw [World.cell?_alloc_lt _ _ _ (by first | (simp; done) | (simp; omega) | omega)]); first | assumption | (simp; done)))
  have c_w1_1_1 : w1.cell? ⟨w.heap.size + 1, 1, none⟩ = some (.int .i64 (hn)) := (hb_w1.cell (by first | assumption | (simp; done) | (simp; omega))).trans (by first | assumption | (simp; done) | (simp [go_sem]; done) | (simp [*]; done) | ((repeat rw [World.cell?_alloc_lt _ _ _ (by first | (simp; done) | (simp; omega) | omega)]); first | assumption | (simp; done)))
  have z_w1_2 : w.heap.size + 1 + 1 < w1.heap.size := by have := hb_w1.size; first | omega | (simp at this; omega)
  have c_w1_2_0 : w1.cell? ⟨w.heap.size + 1 + 1, 0, none⟩ = some (.int .i64 0) := (hb_w1.cell (by first | assumption | (simp; done) | (simp; omega))).trans (by first | assumption | (simp; done) | (simp [go_sem]; done) | (simp [*]; done) | ((repeat rw [World.cell?_alloc_lt _ _ _ (by first | (simp; done) | (simp; omega) | omega)]); first | assumption | (simp; done)))
  have f_w1_2_0 : w1.frozen? ⟨w.heap.size + 1 + 1, 0, none⟩ = false := (hb_w1.frozen (by first | assumption | (simp; done) | (simp; omega))).trans (by first | assumption | (simp; done) | (simp [go_sem]; done) | (simp [*]; done))
  have c_w1_2_1 : w1.cell? ⟨w.heap.size + 1 + 1, 1, none⟩ = some (.int .i64 0) := (hb_w1.cell (by first | assumption | (simp; done) | (simp; omega))).trans (by first | assumption | (simp; done) | (simp [go_sem]; done) | (simp [*]; done) | ((repeat rw [World.cell?_alloc_lt _ _ _ (by first | (simp; done) | (simp; omega) | omega)]); first | assumption | (simp; done)))
  have f_w1_2_1 : w1.frozen? ⟨w.heap.size + 1 + 1, 1, none⟩ = false := (hb_w1.frozen (by first | assumption | (simp; done) | (simp; omega))).trans (by first | assumption | (simp; done) | (simp [go_sem]; done) | (simp [*]; done))
  have c_w1_2_2 : w1.cell? ⟨w.heap.size + 1 + 1, 2, none⟩ = some (.int .i64 0) := (hb_w1.cell (by first | assumption | (simp; done) | (simp; omega))).trans (by first | assumption | (simp; done) | (simp [go_sem]; done) | (simp [*]; done) | ((repeat rw [World.cell?_alloc_lt _ _ _ (by first | (simp; done) | (simp; omega) | omega)]); first | assumption | (simp; done)))
  have f_w1_2_2 : w1.frozen? ⟨w.heap.size + 1 + 1, 2, none⟩ = false := (hb_w1.frozen (by first | assumption | (simp; done) | (simp; omega))).trans (by first | assumption | (simp; done) | (simp [go_sem]; done) | (simp [*]; done))
  have c_w1_2_3 : w1.cell? ⟨w.heap.size + 1 + 1, 3, none⟩ = some (.int .i64 0) := (hb_w1.cell (by first | assumption | (simp; done) | (simp; omega))).trans (by first | assumption | (simp; done) | (simp [go_sem]; done) | (simp [*]; done) | ((repeat rw [World.cell?_alloc_lt _ _ _ (by first | (simp; done) | (simp; omega) | omega)]); first | assumption | (simp; done)))
  have f_w1_2_3 : w1.frozen? ⟨w.heap.size + 1 + 1, 3, none⟩ = false := (hb_w1.frozen (by first | assumption | (simp; done) | (simp; omega))).trans (by first | assumption | (simp; done) | (simp [go_sem]; done) | (simp [*]; done))
  clear hb_w1
  go_wp2_with fail
  refine (H2.out _).mono ?_
  rintro r_w2 w2 ⟨rfl, hb_w2⟩
  have B_w2 : Below w.heap.size w w2 := by first | exact B_w1.trans (hb_w2.mono B_w1.size) | exact (B_w1.alloc B_w1.size _).trans (hb_w2.mono (by have := B_w1.size; simp; omega)) | exact ((B_w1.alloc B_w1.size _).alloc (by have := B_w1.size; simp; omega) _).trans (hb_w2.mono (by have := B_w1.size; simp; omega)) | (have := B_w1.size; exact Below.trans (by go_grown) (hb_w2.mono (by simp; omega)))
  have z_w2_0 : w.heap.size < w2.heap.size := by have := hb_w2.size; first | omega | (simp at this; omega)
  have c_w2_0_0 : w2.cell? ⟨w.heap.size, 0, none⟩ = some (.int .i64 1) := (hb_w2.cell (by first | assumption | (simp; done) | (simp; omega))).trans (by first | assumption | (simp; done) | (simp [go_sem]; done) | (simp [*]; done) | ((repeat rw [World.cell?_alloc_lt _ _ _ (by first | (simp; done) | (simp; omega) | omega)]); first | assumption | (simp; done)))
  have c_w2_0_1 : w2.cell? ⟨w.heap.size, 1, none⟩ = some (.int .i64 (hn)) := (hb_w2.cell (by first | assumption | (simp; done) | (simp; omega))).trans (by first | assumption | (simp; done) | (simp [go_sem]; done) | (simp [*]; done) | ((repeat rw [World.cell?_alloc_lt _ _ _ (by first | (simp; done) | (simp; omega) | omega)]); first | assumption | (simp; done)))
  have z_w2_1 : w.heap.size + 1 < w2.heap.size := by have := hb_w2.size; first | omega | (simp at this; omega)
  have c_w2_1_0 : w2.cell? ⟨w.heap.size + 1, 0, none⟩ = some (.int .i64 1) := (hb_w2.cell (by first | assumption | (simp; done) | (simp; omega))).trans (by first | assumption | (simp; done) | (simp [go_sem]; done) | (simp [*]; done) | ((repeat rw [World.cell?_alloc_lt _ _ _ (by first | (simp; done) | (simp; omega) | omega)]); first | assumption | (simp; done)))
  have c_w2_1_1 : w2.cell? ⟨w.heap.size + 1, 1, none⟩ = some (.int .i64 (hn)) := (hb_w2.cell (by first | assumption | (simp; done) | (simp; omega))).trans (by first | assumption | (simp; done) | (simp [go_sem]; done) | (simp [*]; done) | ((repeat rw [World.cell?_alloc_lt _ _ _ (by first | (simp; done) | (simp; omega) | omega)]); first | assumption | (simp; done)))
  have z_w2_2 : w.heap.size + 1 + 1 < w2.heap.size := by have := hb_w2.size; first | omega | (simp at this; omega)
  have c_w2_2_0 : w2.cell? ⟨w.heap.size + 1 + 1, 0, none⟩ = some (.int .i64 0) := (hb_w2.cell (by first | assumption | (simp; done) | (simp; omega))).trans (by first | assumption | (simp; done) | (simp [go_sem]; done) | (simp [*]; done) | ((repeat rw [World.cell?_alloc_lt _ _ _ (by first | (simp; done) | (simp; omega) | omega)]); first | assumption | (simp; done)))
  have f_w2_2_0 : w2.frozen? ⟨w.heap.size + 1 + 1, 0, none⟩ = false := (hb_w2.frozen (by first | assumption | (simp; done) | (simp; omega))).trans (by first | assumption | (simp; done) | (simp [go_sem]; done) | (simp [*]; done))
  have c_w2_2_1 : w2.cell? ⟨w.heap.size + 1 + 1, 1, none⟩ = some (.int .i64 0) := (hb_w2.cell (by first | assumption | (simp; done) | (simp; omega))).trans (by first | assumption | (simp; done) | (simp [go_sem]; done) | (simp [*]; done) | ((repeat rw [World.cell?_alloc_lt _ _ _ (by first | (simp; done) | (simp; omega) | omega)]); first | assumption | (simp; done)))
  have f_w2_2_1 : w2.frozen? ⟨w.heap.size + 1 + 1, 1, none⟩ = false := (hb_w2.frozen (by first | assumption | (simp; done) | (simp; omega))).trans (by first | assumption | (simp; done) | (simp [go_sem]; done) | (simp [*]; done))
  have c_w2_2_2 : w2.cell? ⟨w.heap.size + 1 + 1, 2, none⟩ = some (.int .i64 0) := (hb_w2.cell (by first | assumption | (simp; done) | (simp; omega))).trans (by first | assumption | (simp; done) | (simp [go_sem]; done) | (simp [*]; done) | ((repeat rw [World.cell?_alloc_lt _ _ _ (by first | (simp; done) | (simp; omega) | omega)]); first | assumption | (simp; done)))
  have f_w2_2_2 : w2.frozen? ⟨w.heap.size + 1 + 1, 2, none⟩ = false := (hb_w2.frozen (by first | assumption | (simp; done) | (simp; omega))).trans (by first | assumption | (simp; done) | (simp [go_sem]; done) | (simp [*]; done))
  have c_w2_2_3 : w2.cell? ⟨w.heap.size + 1 + 1, 3, none⟩ = some (.int .i64 0) := (hb_w2.cell (by first | assumption | (simp; done) | (simp; omega))).trans (by first | assumption | (simp; done) | (simp [go_sem]; done) | (simp [*]; done) | ((repeat rw [World.cell?_alloc_lt _ _ _ (by first | (simp; done) | (simp; omega) | omega)]); first | assumption | (simp; done)))
  have f_w2_2_3 : w2.frozen? ⟨w.heap.size + 1 + 1, 3, none⟩ = false := (hb_w2.frozen (by first | assumption | (simp; done) | (simp; omega))).trans (by first | assumption | (simp; done) | (simp [go_sem]; done) | (simp [*]; done))
  clear c_w1_0_0 c_w1_0_1 c_w1_1_0 c_w1_1_1 c_w1_2_0 f_w1_2_0 c_w1_2_1 f_w1_2_1 c_w1_2_2 f_w1_2_2 c_w1_2_3 f_w1_2_3 z_w1_0 z_w1_1 z_w1_2 B_w1 hb_w2
  go_wp2_with fail
  go_quiet (fail)
  have hz3 : w.heap.size + 1 + 1 < (w2.drewN nq).heap.size := z_w2_2
  have hb3 : Below w.heap.size w (w2.drewN nq) := B_w2.trans (below_drewN _ _ _)
  clear x1 x2 x3
  go_wp2_with (go_at_call 64; refine (HX.out _).mono ?_; rintro e w' ⟨rfl, rfl⟩)
  refine bodyPost_ret (v := .tuple #[.agg #[.int .i64 6, .int .i64 (hn), .int .i64 (0), .int .i64 0], .int .i64 0]) (by simp [results, Try.results18, go_sem, hm, c_w2_2_0, c_w2_2_1, c_w2_2_2, c_w2_2_3, z_w2_2]) rfl ⟨rfl, ?_⟩
  have hz := B_w2.size
  go_grown
set_option maxHeartbeats 1000000 in
theorem jr_11gt (hn : Int) (a1 : 1 ≤ hn) (a2 : hn ≤ 4294967295) (dn : Int) (b1 : 1 ≤ dn) (b2 : dn ≤ 4294967295) (hlt : dn < hn) (w : World) : Calls Try.prog 18 #[.agg #[.int .i64 1, .int .i64 (hn)], .agg #[.int .i64 1, .int .i64 (dn)]] w fun r w' => r = .returned (.tuple #[.agg #[.int .i64 5, .int .i64 (dn), .int .i64 (hn - dn), .int .i64 0], .int .i64 0]) ∧ Below w.heap.size w w' := by
  have t1 := move_any 1 (hn)
  have t2 := move_any 1 (dn)
  rw [show mvOk 1 (hn) = true by unfold mvOk; simp <;> omega] at t1
  rw [show mvOk 1 (dn) = true by unfold mvOk; simp <;> omega] at t2
  have H1 := Lib.hid t1
  have H2 := Lib.hid t2
  have HX := Lib.hid ix_5
  have hm : min (hn : Int) (dn) = dn := by omega
  have x1 := tab_1
  have x2 := tab_11
  have x3 := tab_110
  clear t1 t2
  go_enter Try.func18, Try.ntmps18
  go_wp2_with fail
  refine (H1.out _).mono ?_
  rintro r_w1 w1 ⟨rfl, hb_w1⟩
  have B_w1 : Below w.heap.size w w1 := by first | exact hb_w1 | exact ((Below.refl _ _).alloc (Nat.le_refl _) _).trans (hb_w1.mono (by simp)) | exact (((Below.refl _ _).alloc (Nat.le_refl _) _).alloc (by simp) _).trans (hb_w1.mono (by simp; omega)) | exact Below.trans (by go_grown) (hb_w1.mono (by simp; omega))
  have z_w1_0 : w.heap.size < w1.heap.size := by have := hb_w1.size; first | omega | (simp at this; omega)
  have c_w1_0_0 : w1.cell? ⟨w.heap.size, 0, none⟩ = some (.int .i64 1) := (hb_w1.cell (by first | assumption | (simp; done) | (simp; omega))).trans (by first | assumption | (simp; done) | (simp [go_sem]; done) | (simp [*]; done) | ((repeat rw [World.cell?_alloc_lt _ _ _ (by first | (simp; done) | (simp; omega) | omega)]); first | assumption | (simp; done)))
  have c_w1_0_1 : w1.cell? ⟨w.heap.size, 1, none⟩ = some (.int .i64 (hn)) := (hb_w1.cell (by first | assumption | (simp; done) | (simp; omega))).trans (by first | assumption | (simp; done) | (simp [go_sem]; done) | (simp [*]; done) | ((repeat rw [World.cell?_alloc_lt _ _ _ (by first | (simp; done) | (simp; omega) | omega)]); first | assumption | (simp; done)))
  have z_w1_1 : w.heap.size + 1 < w1.heap.size := by have := hb_w1.size; first | omega | (simp at this; omega)
  have c_w1_1_0 : w1.cell? ⟨w.heap.size + 1, 0, none⟩ = some (.int .i64 1) := (hb_w1.cell (by first | assumption | (simp; done) | (simp; omega))).trans (by first | assumption | (simp; done) | (simp [go_sem]; done) | (simp [*]; done) | ((repeat rw [World.cell?_alloc_lt _ _ _ (by first | (simp; done) | (simp; omega) | omega)]); first | assumption | (simp; done)))
  have c_w1_1_1 : w1.cell? ⟨w.heap.size + 1, 1, none⟩ = some (.int .i64 (dn)) := (hb_w1.cell (by first | assumption | (simp; done) | (simp; omega))).trans (by first | assumption | (simp; done) | (simp [go_sem]; done) | (simp [*]; done) | ((repeat rw [World.cell?_alloc_lt _ _ _ (by first | (simp; done) | (simp; omega) | omega)]); first | assumption | (simp; done)))
  have z_w1_2 : w.heap.size + 1 + 1 < w1.heap.size := by have := hb_w1.size; first | omega | (simp at this; omega)
  have c_w1_2_0 : w1.cell? ⟨w.heap.size + 1 + 1, 0, none⟩ = some (.int .i64 0) := (hb_w1.cell (by first | assumption | (simp; done) | (simp; omega))).trans (by first | assumption | (simp; done) | (simp [go_sem]; done) | (simp [*]; done) | ((repeat rw [World.cell?_alloc_lt _ _ _ (by first | (simp; done) | (simp; omega) | omega)]); first | assumption | (simp; done)))
  have f_w1_2_0 : w1.frozen? ⟨w.heap.size + 1 + 1, 0, none⟩ = false := (hb_w1.frozen (by first | assumption | (simp; done) | (simp; omega))).trans (by first | assumption | (simp; done) | (simp [go_sem]; done) | (simp [*]; done))
  have c_w1_2_1 : w1.cell? ⟨w.heap.size + 1 + 1, 1, none⟩ = some (.int .i64 0) := (hb_w1.cell (by first | assumption | (simp; done) | (simp; omega))).trans (by first | assumption | (simp; done) | (simp [go_sem]; done) | (simp [*]; done) | ((repeat rw [World.cell?_alloc_lt _ _ _ (by first | (simp; done) | (simp; omega) | omega)]); first | assumption | (simp; done)))
  have f_w1_2_1 : w1.frozen? ⟨w.heap.size + 1 + 1, 1, none⟩ = false := (hb_w1.frozen (by first | assumption | (simp; done) | (simp; omega))).trans (by first | assumption | (simp; done) | (simp [go_sem]; done) | (simp [*]; done))
  have c_w1_2_2 : w1.cell? ⟨w.heap.size + 1 + 1, 2, none⟩ = some (.int .i64 0) := (hb_w1.cell (by first | assumption | (simp; done) | (simp; omega))).trans (by first | assumption | (simp; done) | (simp [go_sem]; done) | (simp [*]; done) | ((repeat rw [World.cell?_alloc_lt _ _ _ (by first | (simp; done) | (simp; omega) | omega)]); first | assumption | (simp; done)))
  have f_w1_2_2 : w1.frozen? ⟨w.heap.size + 1 + 1, 2, none⟩ = false := (hb_w1.frozen (by first | assumption | (simp; done) | (simp; omega))).trans (by first | assumption | (simp; done) | (simp [go_sem]; done) | (simp [*]; done))
  have c_w1_2_3 : w1.cell? ⟨w.heap.size + 1 + 1, 3, none⟩ = some (.int .i64 0) := (hb_w1.cell (by first | assumption | (simp; done) | (simp; omega))).trans (by first | assumption | (simp; done) | (simp [go_sem]; done) | (simp [*]; done) | ((repeat rw [World.cell?_alloc_lt _ _ _ (by first | (simp; done) | (simp; omega) | omega)]); first | assumption | (simp; done)))
  have f_w1_2_3 : w1.frozen? ⟨w.heap.size + 1 + 1, 3, none⟩ = false := (hb_w1.frozen (by first | assumption | (simp; done) | (simp; omega))).trans (by first | assumption | (simp; done) | (simp [go_sem]; done) | (simp [*]; done))
  clear hb_w1
  go_wp2_with fail
  refine (H2.out _).mono ?_
  rintro r_w2 w2 ⟨rfl, hb_w2⟩
  have B_w2 : Below w.heap.size w w2 := by first | exact B_w1.trans (hb_w2.mono B_w1.size) | exact (B_w1.alloc B_w1.size _).trans (hb_w2.mono (by have := B_w1.size; simp; omega)) | exact ((B_w1.alloc B_w1.size _).alloc (by have := B_w1.size; simp; omega) _).trans (hb_w2.mono (by have := B_w1.size; simp; omega)) | (have := B_w1.size; exact Below.trans (by go_grown) (hb_w2.mono (by simp; omega)))
  have z_w2_0 : w.heap.size < w2.heap.size := by have := hb_w2.size; first | omega | (simp at this; omega)
  have c_w2_0_0 : w2.cell? ⟨w.heap.size, 0, none⟩ = some (.int .i64 1) := (hb_w2.cell (by first | assumption | (simp; done) | (simp; omega))).trans (by first | assumption | (simp; done) | (simp [go_sem]; done) | (simp [*]; done) | ((repeat rw [World.cell?_alloc_lt _ _ _ (by first | (simp; done) | (simp; omega) | omega)]); first | assumption | (simp; done)))
  have c_w2_0_1 : w2.cell? ⟨w.heap.size, 1, none⟩ = some (.int .i64 (hn)) := (hb_w2.cell (by first | assumption | (simp; done) | (simp; omega))).trans (by first | assumption | (simp; done) | (simp [go_sem]; done) | (simp [*]; done) | ((repeat rw [World.cell?_alloc_lt _ _ _ (by first | (simp; done) | (simp; omega) | omega)]); first | assumption | (simp; done)))
  have z_w2_1 : w.heap.size + 1 < w2.heap.size := by have := hb_w2.size; first | omega | (simp at this; omega)
  have c_w2_1_0 : w2.cell? ⟨w.heap.size + 1, 0, none⟩ = some (.int .i64 1) := (hb_w2.cell (by first | assumption | (simp; done) | (simp; omega))).trans (by first | assumption | (simp; done) | (simp [go_sem]; done) | (simp [*]; done) | ((repeat rw [World.cell?_alloc_lt _ _ _ (by first | (simp; done) | (simp; omega) | omega)]); first | assumption | (simp; done)))
  have c_w2_1_1 : w2.cell? ⟨w.heap.size + 1, 1, none⟩ = some (.int .i64 (dn)) := (hb_w2.cell (by first | assumption | (simp; done) | (simp; omega))).trans (by first | assumption | (simp; done) | (simp [go_sem]; done) | (simp [*]; done) | ((repeat rw [World.cell?_alloc_lt _ _ _ (by first | (simp; done) | (simp; omega) | omega)]); first | assumption | (simp; done)))
  have z_w2_2 : w.heap.size + 1 + 1 < w2.heap.size := by have := hb_w2.size; first | omega | (simp at this; omega)
  have c_w2_2_0 : w2.cell? ⟨w.heap.size + 1 + 1, 0, none⟩ = some (.int .i64 0) := (hb_w2.cell (by first | assumption | (simp; done) | (simp; omega))).trans (by first | assumption | (simp; done) | (simp [go_sem]; done) | (simp [*]; done) | ((repeat rw [World.cell?_alloc_lt _ _ _ (by first | (simp; done) | (simp; omega) | omega)]); first | assumption | (simp; done)))
  have f_w2_2_0 : w2.frozen? ⟨w.heap.size + 1 + 1, 0, none⟩ = false := (hb_w2.frozen (by first | assumption | (simp; done) | (simp; omega))).trans (by first | assumption | (simp; done) | (simp [go_sem]; done) | (simp [*]; done))
  have c_w2_2_1 : w2.cell? ⟨w.heap.size + 1 + 1, 1, none⟩ = some (.int .i64 0) := (hb_w2.cell (by first | assumption | (simp; done) | (simp; omega))).trans (by first | assumption | (simp; done) | (simp [go_sem]; done) | (simp [*]; done) | ((repeat rw [World.cell?_alloc_lt _ _ _ (by first | (simp; done) | (simp; omega) | omega)]); first | assumption | (simp; done)))
  have f_w2_2_1 : w2.frozen? ⟨w.heap.size + 1 + 1, 1, none⟩ = false := (hb_w2.frozen (by first | assumption | (simp; done) | (simp; omega))).trans (by first | assumption | (simp; done) | (simp [go_sem]; done) | (simp [*]; done))
  have c_w2_2_2 : w2.cell? ⟨w.heap.size + 1 + 1, 2, none⟩ = some (.int .i64 0) := (hb_w2.cell (by first | assumption | (simp; done) | (simp; omega))).trans (by first | assumption | (simp; done) | (simp [go_sem]; done) | (simp [*]; done) | ((repeat rw [World.cell?_alloc_lt _ _ _ (by first | (simp; done) | (simp; omega) | omega)]); first | assumption | (simp; done)))
  have f_w2_2_2 : w2.frozen? ⟨w.heap.size + 1 + 1, 2, none⟩ = false := (hb_w2.frozen (by first | assumption | (simp; done) | (simp; omega))).trans (by first | assumption | (simp; done) | (simp [go_sem]; done) | (simp [*]; done))
  have c_w2_2_3 : w2.cell? ⟨w.heap.size + 1 + 1, 3, none⟩ = some (.int .i64 0) := (hb_w2.cell (by first | assumption | (simp; done) | (simp; omega))).trans (by first | assumption | (simp; done) | (simp [go_sem]; done) | (simp [*]; done) | ((repeat rw [World.cell?_alloc_lt _ _ _ (by first | (simp; done) | (simp; omega) | omega)]); first | assumption | (simp; done)))
  have f_w2_2_3 : w2.frozen? ⟨w.heap.size + 1 + 1, 3, none⟩ = false := (hb_w2.frozen (by first | assumption | (simp; done) | (simp; omega))).trans (by first | assumption | (simp; done) | (simp [go_sem]; done) | (simp [*]; done))
  clear c_w1_0_0 c_w1_0_1 c_w1_1_0 c_w1_1_1 c_w1_2_0 f_w1_2_0 c_w1_2_1 f_w1_2_1 c_w1_2_2 f_w1_2_2 c_w1_2_3 f_w1_2_3 z_w1_0 z_w1_1 z_w1_2 B_w1 hb_w2
  go_wp2_with fail
  go_quiet (fail)
  have hz3 : w.heap.size + 1 + 1 < (w2.drewN nq).heap.size := z_w2_2
  have hb3 : Below w.heap.size w (w2.drewN nq) := B_w2.trans (below_drewN _ _ _)
  clear x1 x2 x3
  go_wp2_with (go_at_call 64; refine (HX.out _).mono ?_; rintro e w' ⟨rfl, rfl⟩)
  refine bodyPost_ret (v := .tuple #[.agg #[.int .i64 5, .int .i64 (dn), .int .i64 (hn - dn), .int .i64 0], .int .i64 0]) (by simp [results, Try.results18, go_sem, hm, c_w2_2_0, c_w2_2_1, c_w2_2_2, c_w2_2_3, z_w2_2]) rfl ⟨rfl, ?_⟩
  have hz := B_w2.size
  go_grown
end Go.Proofs.Ytbeilpecdimheaa
