/- The walk of the law RingPuts. -/
import Derived.Test.YtkhfbleldchnpaaRing6
namespace Go.Proofs.Ytkhfbleldchnpaa
open Go.RowKit
set_option linter.unusedVariables false
set_option linter.unusedSimpArgs false
set_option maxRecDepth 100000

set_option maxHeartbeats 1000000 in
theorem ringPuts_walk (w : World) (a : Option Addr) (cap : Nat) (l : List RC) (hr : Reads w 3 (.slice a l.length cap) l.length (rcells l)) (hlw : ∀ p ∈ l, (Lit.int .u64 p.1).wf = true ∧ (Lit.int .i64 p.2.1).wf = true) (pa : Int) (hpa : (Lit.int .i64 pa).wf = true) (pb : Int) (hpb : (Lit.int .i64 pb).wf = true) (ga : Int) (hga : (Lit.int .i64 ga).wf = true) (gb : Int) (hgb : (Lit.int .i64 gb).wf = true) (se : Int) (hse : (Lit.int .i64 se).wf = true) (word : Int) (hword : (Lit.int .u64 word).wf = true) :
    Calls Try.prog 9 #[.agg #[.slice a l.length cap, .int .i64 pa, .int .i64 pb, .int .i64 ga, .int .i64 gb, .int .i64 se], .int .u64 word] w fun r w' => r = .returned (.bool true) ∧ Below w.heap.size w w' := by
  obtain ⟨A, B, C, D, S, er, ql, h1, h2⟩ := puts_both pa pb ga gb se word a cap l w hr
  have HP := Lib.hid (fun w' (hb : Below w.heap.size w w') => h1 w' (hr.below hb (Nat.le_refl _)))
  have HQ := Lib.hid (fun w' (hb : Below w.heap.size w w') => h2 w' (hr.below hb (Nat.le_refl _)))
  have HC := Lib.hid (fun w' (hb : Below w.heap.size w w') => checkR_any pa pb ga gb se a cap l w' (hr.below hb (Nat.le_refl _)))
  have HR := Lib.hid (fun w' (hb : Below w.heap.size w w') => ringR_any pa pb ga gb se a cap l w' (hr.below hb (Nat.le_refl _)))
  clear h1 h2 hr hlw hpa hpb hga hgb hse hword
  generalize ringErr l pa pb ga gb se = E at *
  generalize hn : l.length = n at *
  clear hn
  have HS := Lib.hid (fun (w' : World) va vb => sameRing_same A B C D S va vb ql w')
  generalize hm : ql.length = m at *
  clear hm
  go_enter Try.func9, Try.ntmps9
  go_wp2_with fail
  refine (HP.out _ (by go_grown)).mono ?_
  rintro r_w1 w1 ⟨ad1, cap1, rfl, hr1, hb_w1⟩
  have B_w1 : Below w.heap.size w w1 := by first | exact hb_w1 | exact ((Below.refl _ _).alloc (Nat.le_refl _) _).trans (hb_w1.mono (by simp)) | exact (((Below.refl _ _).alloc (Nat.le_refl _) _).alloc (by simp) _).trans (hb_w1.mono (by simp; omega)) | exact Below.trans (by go_grown) (hb_w1.mono (by simp; omega))
  have z_w1_0 : w.heap.size < w1.heap.size := by have := hb_w1.size; first | omega | (simp at this; omega)
  have c_w1_0_0 : w1.cell? ⟨w.heap.size, 0, none⟩ = some (.slice a n cap) := (hb_w1.cell (by first | assumption | (simp; done) | (simp; omega))).trans (by first | assumption | (simp; done) | (simp [go_sem]; done) | (simp [*]; done) | ((repeat rw [World.cell?_alloc_lt _ _ _ (by first | (simp; done) | (simp; omega) | omega)]); first | assumption | (simp; done)))
  have c_w1_0_1 : w1.cell? ⟨w.heap.size, 1, none⟩ = some (.int .i64 pa) := (hb_w1.cell (by first | assumption | (simp; done) | (simp; omega))).trans (by first | assumption | (simp; done) | (simp [go_sem]; done) | (simp [*]; done) | ((repeat rw [World.cell?_alloc_lt _ _ _ (by first | (simp; done) | (simp; omega) | omega)]); first | assumption | (simp; done)))
  have c_w1_0_2 : w1.cell? ⟨w.heap.size, 2, none⟩ = some (.int .i64 pb) := (hb_w1.cell (by first | assumption | (simp; done) | (simp; omega))).trans (by first | assumption | (simp; done) | (simp [go_sem]; done) | (simp [*]; done) | ((repeat rw [World.cell?_alloc_lt _ _ _ (by first | (simp; done) | (simp; omega) | omega)]); first | assumption | (simp; done)))
  have c_w1_0_3 : w1.cell? ⟨w.heap.size, 3, none⟩ = some (.int .i64 ga) := (hb_w1.cell (by first | assumption | (simp; done) | (simp; omega))).trans (by first | assumption | (simp; done) | (simp [go_sem]; done) | (simp [*]; done) | ((repeat rw [World.cell?_alloc_lt _ _ _ (by first | (simp; done) | (simp; omega) | omega)]); first | assumption | (simp; done)))
  have c_w1_0_4 : w1.cell? ⟨w.heap.size, 4, none⟩ = some (.int .i64 gb) := (hb_w1.cell (by first | assumption | (simp; done) | (simp; omega))).trans (by first | assumption | (simp; done) | (simp [go_sem]; done) | (simp [*]; done) | ((repeat rw [World.cell?_alloc_lt _ _ _ (by first | (simp; done) | (simp; omega) | omega)]); first | assumption | (simp; done)))
  have c_w1_0_5 : w1.cell? ⟨w.heap.size, 5, none⟩ = some (.int .i64 se) := (hb_w1.cell (by first | assumption | (simp; done) | (simp; omega))).trans (by first | assumption | (simp; done) | (simp [go_sem]; done) | (simp [*]; done) | ((repeat rw [World.cell?_alloc_lt _ _ _ (by first | (simp; done) | (simp; omega) | omega)]); first | assumption | (simp; done)))
  clear hb_w1
  go_wp2_with fail
  refine (HQ.out _ (by first | exact B_w1 | (have := B_w1.size; go_grown))).mono ?_
  rintro r_w2 w2 ⟨ad2, cap2, rfl, hr2, hb_w2⟩
  have B_w2 : Below w.heap.size w w2 := by first | exact B_w1.trans (hb_w2.mono B_w1.size) | exact (B_w1.alloc B_w1.size _).trans (hb_w2.mono (by have := B_w1.size; simp; omega)) | exact ((B_w1.alloc B_w1.size _).alloc (by have := B_w1.size; simp; omega) _).trans (hb_w2.mono (by have := B_w1.size; simp; omega)) | (have := B_w1.size; exact Below.trans (by go_grown) (hb_w2.mono (by simp; omega)))
  have z_w2_0 : w.heap.size < w2.heap.size := by have := hb_w2.size; first | omega | (simp at this; omega)
  have c_w2_0_0 : w2.cell? ⟨w.heap.size, 0, none⟩ = some (.slice a n cap) := (hb_w2.cell (by first | assumption | (simp; done) | (simp; omega))).trans (by first | assumption | (simp; done) | (simp [go_sem]; done) | (simp [*]; done) | ((repeat rw [World.cell?_alloc_lt _ _ _ (by first | (simp; done) | (simp; omega) | omega)]); first | assumption | (simp; done)))
  have c_w2_0_1 : w2.cell? ⟨w.heap.size, 1, none⟩ = some (.int .i64 pa) := (hb_w2.cell (by first | assumption | (simp; done) | (simp; omega))).trans (by first | assumption | (simp; done) | (simp [go_sem]; done) | (simp [*]; done) | ((repeat rw [World.cell?_alloc_lt _ _ _ (by first | (simp; done) | (simp; omega) | omega)]); first | assumption | (simp; done)))
  have c_w2_0_2 : w2.cell? ⟨w.heap.size, 2, none⟩ = some (.int .i64 pb) := (hb_w2.cell (by first | assumption | (simp; done) | (simp; omega))).trans (by first | assumption | (simp; done) | (simp [go_sem]; done) | (simp [*]; done) | ((repeat rw [World.cell?_alloc_lt _ _ _ (by first | (simp; done) | (simp; omega) | omega)]); first | assumption | (simp; done)))
  have c_w2_0_3 : w2.cell? ⟨w.heap.size, 3, none⟩ = some (.int .i64 ga) := (hb_w2.cell (by first | assumption | (simp; done) | (simp; omega))).trans (by first | assumption | (simp; done) | (simp [go_sem]; done) | (simp [*]; done) | ((repeat rw [World.cell?_alloc_lt _ _ _ (by first | (simp; done) | (simp; omega) | omega)]); first | assumption | (simp; done)))
  have c_w2_0_4 : w2.cell? ⟨w.heap.size, 4, none⟩ = some (.int .i64 gb) := (hb_w2.cell (by first | assumption | (simp; done) | (simp; omega))).trans (by first | assumption | (simp; done) | (simp [go_sem]; done) | (simp [*]; done) | ((repeat rw [World.cell?_alloc_lt _ _ _ (by first | (simp; done) | (simp; omega) | omega)]); first | assumption | (simp; done)))
  have c_w2_0_5 : w2.cell? ⟨w.heap.size, 5, none⟩ = some (.int .i64 se) := (hb_w2.cell (by first | assumption | (simp; done) | (simp; omega))).trans (by first | assumption | (simp; done) | (simp [go_sem]; done) | (simp [*]; done) | ((repeat rw [World.cell?_alloc_lt _ _ _ (by first | (simp; done) | (simp; omega) | omega)]); first | assumption | (simp; done)))
  have z_w2_1 : w1.heap.size < w2.heap.size := by have := hb_w2.size; first | omega | (simp at this; omega)
  have c_w2_1_0 : w2.cell? ⟨w1.heap.size, 0, none⟩ = some (.slice ad1 m cap1) := (hb_w2.cell (by first | assumption | (simp; done) | (simp; omega))).trans (by first | assumption | (simp; done) | (simp [go_sem]; done) | (simp [*]; done) | ((repeat rw [World.cell?_alloc_lt _ _ _ (by first | (simp; done) | (simp; omega) | omega)]); first | assumption | (simp; done)))
  have c_w2_1_1 : w2.cell? ⟨w1.heap.size, 1, none⟩ = some (.int .i64 A) := (hb_w2.cell (by first | assumption | (simp; done) | (simp; omega))).trans (by first | assumption | (simp; done) | (simp [go_sem]; done) | (simp [*]; done) | ((repeat rw [World.cell?_alloc_lt _ _ _ (by first | (simp; done) | (simp; omega) | omega)]); first | assumption | (simp; done)))
  have c_w2_1_2 : w2.cell? ⟨w1.heap.size, 2, none⟩ = some (.int .i64 B) := (hb_w2.cell (by first | assumption | (simp; done) | (simp; omega))).trans (by first | assumption | (simp; done) | (simp [go_sem]; done) | (simp [*]; done) | ((repeat rw [World.cell?_alloc_lt _ _ _ (by first | (simp; done) | (simp; omega) | omega)]); first | assumption | (simp; done)))
  have c_w2_1_3 : w2.cell? ⟨w1.heap.size, 3, none⟩ = some (.int .i64 C) := (hb_w2.cell (by first | assumption | (simp; done) | (simp; omega))).trans (by first | assumption | (simp; done) | (simp [go_sem]; done) | (simp [*]; done) | ((repeat rw [World.cell?_alloc_lt _ _ _ (by first | (simp; done) | (simp; omega) | omega)]); first | assumption | (simp; done)))
  have c_w2_1_4 : w2.cell? ⟨w1.heap.size, 4, none⟩ = some (.int .i64 D) := (hb_w2.cell (by first | assumption | (simp; done) | (simp; omega))).trans (by first | assumption | (simp; done) | (simp [go_sem]; done) | (simp [*]; done) | ((repeat rw [World.cell?_alloc_lt _ _ _ (by first | (simp; done) | (simp; omega) | omega)]); first | assumption | (simp; done)))
  have c_w2_1_5 : w2.cell? ⟨w1.heap.size, 5, none⟩ = some (.int .i64 S) := (hb_w2.cell (by first | assumption | (simp; done) | (simp; omega))).trans (by first | assumption | (simp; done) | (simp [go_sem]; done) | (simp [*]; done) | ((repeat rw [World.cell?_alloc_lt _ _ _ (by first | (simp; done) | (simp; omega) | omega)]); first | assumption | (simp; done)))
  have hr1 := Reads.below hr1 (Below.trans (by go_grown) (hb_w2.mono (by first | exact Nat.le_refl _ | (simp; done) | (simp; omega)))) (Nat.le_refl _)
  clear c_w1_0_0 c_w1_0_1 c_w1_0_2 c_w1_0_3 c_w1_0_4 c_w1_0_5 z_w1_0 B_w1 hb_w2
  go_wp2_with fail
  have B_w3 : Below w.heap.size w ((w2.alloc (.cells #[.slice ad2 m cap2, .int .i64 A, .int .i64 B, .int .i64 C, .int .i64 D, .int .i64 S] 65))) := by first | (have hz9 := B_w2.size; go_grown; done) | exact Below.trans (by go_grown) (below_drewN _ _ _)
  have z_w3_0 : w.heap.size < ((w2.alloc (.cells #[.slice ad2 m cap2, .int .i64 A, .int .i64 B, .int .i64 C, .int .i64 D, .int .i64 S] 65))).heap.size := by first | (with_reducible assumption) | (simp; done) | (simp; omega)
  have c_w3_0_0 : ((w2.alloc (.cells #[.slice ad2 m cap2, .int .i64 A, .int .i64 B, .int .i64 C, .int .i64 D, .int .i64 S] 65))).cell? ⟨w.heap.size, 0, none⟩ = some (.slice a n cap) := by first | (with_reducible assumption) | (simp [go_sem]; done) | (simp; done) | (simp [*]; done) | (simp [go_sem, *]; done)
  have c_w3_0_1 : ((w2.alloc (.cells #[.slice ad2 m cap2, .int .i64 A, .int .i64 B, .int .i64 C, .int .i64 D, .int .i64 S] 65))).cell? ⟨w.heap.size, 1, none⟩ = some (.int .i64 pa) := by first | (with_reducible assumption) | (simp [go_sem]; done) | (simp; done) | (simp [*]; done) | (simp [go_sem, *]; done)
  have c_w3_0_2 : ((w2.alloc (.cells #[.slice ad2 m cap2, .int .i64 A, .int .i64 B, .int .i64 C, .int .i64 D, .int .i64 S] 65))).cell? ⟨w.heap.size, 2, none⟩ = some (.int .i64 pb) := by first | (with_reducible assumption) | (simp [go_sem]; done) | (simp; done) | (simp [*]; done) | (simp [go_sem, *]; done)
  have c_w3_0_3 : ((w2.alloc (.cells #[.slice ad2 m cap2, .int .i64 A, .int .i64 B, .int .i64 C, .int .i64 D, .int .i64 S] 65))).cell? ⟨w.heap.size, 3, none⟩ = some (.int .i64 ga) := by first | (with_reducible assumption) | (simp [go_sem]; done) | (simp; done) | (simp [*]; done) | (simp [go_sem, *]; done)
  have c_w3_0_4 : ((w2.alloc (.cells #[.slice ad2 m cap2, .int .i64 A, .int .i64 B, .int .i64 C, .int .i64 D, .int .i64 S] 65))).cell? ⟨w.heap.size, 4, none⟩ = some (.int .i64 gb) := by first | (with_reducible assumption) | (simp [go_sem]; done) | (simp; done) | (simp [*]; done) | (simp [go_sem, *]; done)
  have c_w3_0_5 : ((w2.alloc (.cells #[.slice ad2 m cap2, .int .i64 A, .int .i64 B, .int .i64 C, .int .i64 D, .int .i64 S] 65))).cell? ⟨w.heap.size, 5, none⟩ = some (.int .i64 se) := by first | (with_reducible assumption) | (simp [go_sem]; done) | (simp; done) | (simp [*]; done) | (simp [go_sem, *]; done)
  have z_w3_1 : w1.heap.size < ((w2.alloc (.cells #[.slice ad2 m cap2, .int .i64 A, .int .i64 B, .int .i64 C, .int .i64 D, .int .i64 S] 65))).heap.size := by first | (with_reducible assumption) | (simp; done) | (simp; omega)
  have c_w3_1_0 : ((w2.alloc (.cells #[.slice ad2 m cap2, .int .i64 A, .int .i64 B, .int .i64 C, .int .i64 D, .int .i64 S] 65))).cell? ⟨w1.heap.size, 0, none⟩ = some (.slice ad1 m cap1) := by first | (with_reducible assumption) | (simp [go_sem]; done) | (simp; done) | (simp [*]; done) | (simp [go_sem, *]; done)
  have c_w3_1_1 : ((w2.alloc (.cells #[.slice ad2 m cap2, .int .i64 A, .int .i64 B, .int .i64 C, .int .i64 D, .int .i64 S] 65))).cell? ⟨w1.heap.size, 1, none⟩ = some (.int .i64 A) := by first | (with_reducible assumption) | (simp [go_sem]; done) | (simp; done) | (simp [*]; done) | (simp [go_sem, *]; done)
  have c_w3_1_2 : ((w2.alloc (.cells #[.slice ad2 m cap2, .int .i64 A, .int .i64 B, .int .i64 C, .int .i64 D, .int .i64 S] 65))).cell? ⟨w1.heap.size, 2, none⟩ = some (.int .i64 B) := by first | (with_reducible assumption) | (simp [go_sem]; done) | (simp; done) | (simp [*]; done) | (simp [go_sem, *]; done)
  have c_w3_1_3 : ((w2.alloc (.cells #[.slice ad2 m cap2, .int .i64 A, .int .i64 B, .int .i64 C, .int .i64 D, .int .i64 S] 65))).cell? ⟨w1.heap.size, 3, none⟩ = some (.int .i64 C) := by first | (with_reducible assumption) | (simp [go_sem]; done) | (simp; done) | (simp [*]; done) | (simp [go_sem, *]; done)
  have c_w3_1_4 : ((w2.alloc (.cells #[.slice ad2 m cap2, .int .i64 A, .int .i64 B, .int .i64 C, .int .i64 D, .int .i64 S] 65))).cell? ⟨w1.heap.size, 4, none⟩ = some (.int .i64 D) := by first | (with_reducible assumption) | (simp [go_sem]; done) | (simp; done) | (simp [*]; done) | (simp [go_sem, *]; done)
  have c_w3_1_5 : ((w2.alloc (.cells #[.slice ad2 m cap2, .int .i64 A, .int .i64 B, .int .i64 C, .int .i64 D, .int .i64 S] 65))).cell? ⟨w1.heap.size, 5, none⟩ = some (.int .i64 S) := by first | (with_reducible assumption) | (simp [go_sem]; done) | (simp; done) | (simp [*]; done) | (simp [go_sem, *]; done)
  have z_w3_2 : w2.heap.size < ((w2.alloc (.cells #[.slice ad2 m cap2, .int .i64 A, .int .i64 B, .int .i64 C, .int .i64 D, .int .i64 S] 65))).heap.size := by first | (with_reducible assumption) | (simp; done) | (simp; omega)
  have c_w3_2_0 : ((w2.alloc (.cells #[.slice ad2 m cap2, .int .i64 A, .int .i64 B, .int .i64 C, .int .i64 D, .int .i64 S] 65))).cell? ⟨w2.heap.size, 0, none⟩ = some (.slice ad2 m cap2) := by first | (with_reducible assumption) | (simp [go_sem]; done) | (simp; done) | (simp [*]; done) | (simp [go_sem, *]; done)
  have c_w3_2_1 : ((w2.alloc (.cells #[.slice ad2 m cap2, .int .i64 A, .int .i64 B, .int .i64 C, .int .i64 D, .int .i64 S] 65))).cell? ⟨w2.heap.size, 1, none⟩ = some (.int .i64 A) := by first | (with_reducible assumption) | (simp [go_sem]; done) | (simp; done) | (simp [*]; done) | (simp [go_sem, *]; done)
  have c_w3_2_2 : ((w2.alloc (.cells #[.slice ad2 m cap2, .int .i64 A, .int .i64 B, .int .i64 C, .int .i64 D, .int .i64 S] 65))).cell? ⟨w2.heap.size, 2, none⟩ = some (.int .i64 B) := by first | (with_reducible assumption) | (simp [go_sem]; done) | (simp; done) | (simp [*]; done) | (simp [go_sem, *]; done)
  have c_w3_2_3 : ((w2.alloc (.cells #[.slice ad2 m cap2, .int .i64 A, .int .i64 B, .int .i64 C, .int .i64 D, .int .i64 S] 65))).cell? ⟨w2.heap.size, 3, none⟩ = some (.int .i64 C) := by first | (with_reducible assumption) | (simp [go_sem]; done) | (simp; done) | (simp [*]; done) | (simp [go_sem, *]; done)
  have c_w3_2_4 : ((w2.alloc (.cells #[.slice ad2 m cap2, .int .i64 A, .int .i64 B, .int .i64 C, .int .i64 D, .int .i64 S] 65))).cell? ⟨w2.heap.size, 4, none⟩ = some (.int .i64 D) := by first | (with_reducible assumption) | (simp [go_sem]; done) | (simp; done) | (simp [*]; done) | (simp [go_sem, *]; done)
  have c_w3_2_5 : ((w2.alloc (.cells #[.slice ad2 m cap2, .int .i64 A, .int .i64 B, .int .i64 C, .int .i64 D, .int .i64 S] 65))).cell? ⟨w2.heap.size, 5, none⟩ = some (.int .i64 S) := by first | (with_reducible assumption) | (simp [go_sem]; done) | (simp; done) | (simp [*]; done) | (simp [go_sem, *]; done)
  have hr1 := Reads.below hr1 (by go_grown : Below _ _ ((w2.alloc (.cells #[.slice ad2 m cap2, .int .i64 A, .int .i64 B, .int .i64 C, .int .i64 D, .int .i64 S] 65)))) (Nat.le_refl _)
  have hr2 := Reads.below hr2 (by go_grown : Below _ _ ((w2.alloc (.cells #[.slice ad2 m cap2, .int .i64 A, .int .i64 B, .int .i64 C, .int .i64 D, .int .i64 S] 65)))) (Nat.le_refl _)
  generalize (w2.alloc (.cells #[.slice ad2 m cap2, .int .i64 A, .int .i64 B, .int .i64 C, .int .i64 D, .int .i64 S] 65)) = w3 at *
  clear c_w2_0_0 c_w2_0_1 c_w2_0_2 c_w2_0_3 c_w2_0_4 c_w2_0_5 c_w2_1_0 c_w2_1_1 c_w2_1_2 c_w2_1_3 c_w2_1_4 c_w2_1_5 z_w2_0 z_w2_1 B_w2
  have g_w5_0_0 : ∀ n9 : Grew w3.heap.size w3, n9.w.cell? ⟨w.heap.size, 0, none⟩ = some (.slice a n cap) := fun n9 => (n9.below.cell (by first | assumption | (simp; done) | (simp; omega))).trans (by first | assumption | (simp; done) | simp [*])
  have g_w5_0_1 : ∀ n9 : Grew w3.heap.size w3, n9.w.cell? ⟨w.heap.size, 1, none⟩ = some (.int .i64 pa) := fun n9 => (n9.below.cell (by first | assumption | (simp; done) | (simp; omega))).trans (by first | assumption | (simp; done) | simp [*])
  have g_w5_0_2 : ∀ n9 : Grew w3.heap.size w3, n9.w.cell? ⟨w.heap.size, 2, none⟩ = some (.int .i64 pb) := fun n9 => (n9.below.cell (by first | assumption | (simp; done) | (simp; omega))).trans (by first | assumption | (simp; done) | simp [*])
  have g_w5_0_3 : ∀ n9 : Grew w3.heap.size w3, n9.w.cell? ⟨w.heap.size, 3, none⟩ = some (.int .i64 ga) := fun n9 => (n9.below.cell (by first | assumption | (simp; done) | (simp; omega))).trans (by first | assumption | (simp; done) | simp [*])
  have g_w5_0_4 : ∀ n9 : Grew w3.heap.size w3, n9.w.cell? ⟨w.heap.size, 4, none⟩ = some (.int .i64 gb) := fun n9 => (n9.below.cell (by first | assumption | (simp; done) | (simp; omega))).trans (by first | assumption | (simp; done) | simp [*])
  have g_w5_0_5 : ∀ n9 : Grew w3.heap.size w3, n9.w.cell? ⟨w.heap.size, 5, none⟩ = some (.int .i64 se) := fun n9 => (n9.below.cell (by first | assumption | (simp; done) | (simp; omega))).trans (by first | assumption | (simp; done) | simp [*])
  have g_w5_1_0 : ∀ n9 : Grew w3.heap.size w3, n9.w.cell? ⟨w1.heap.size, 0, none⟩ = some (.slice ad1 m cap1) := fun n9 => (n9.below.cell (by first | assumption | (simp; done) | (simp; omega))).trans (by first | assumption | (simp; done) | simp [*])
  have g_w5_1_1 : ∀ n9 : Grew w3.heap.size w3, n9.w.cell? ⟨w1.heap.size, 1, none⟩ = some (.int .i64 A) := fun n9 => (n9.below.cell (by first | assumption | (simp; done) | (simp; omega))).trans (by first | assumption | (simp; done) | simp [*])
  have g_w5_1_2 : ∀ n9 : Grew w3.heap.size w3, n9.w.cell? ⟨w1.heap.size, 2, none⟩ = some (.int .i64 B) := fun n9 => (n9.below.cell (by first | assumption | (simp; done) | (simp; omega))).trans (by first | assumption | (simp; done) | simp [*])
  have g_w5_1_3 : ∀ n9 : Grew w3.heap.size w3, n9.w.cell? ⟨w1.heap.size, 3, none⟩ = some (.int .i64 C) := fun n9 => (n9.below.cell (by first | assumption | (simp; done) | (simp; omega))).trans (by first | assumption | (simp; done) | simp [*])
  have g_w5_1_4 : ∀ n9 : Grew w3.heap.size w3, n9.w.cell? ⟨w1.heap.size, 4, none⟩ = some (.int .i64 D) := fun n9 => (n9.below.cell (by first | assumption | (simp; done) | (simp; omega))).trans (by first | assumption | (simp; done) | simp [*])
  have g_w5_1_5 : ∀ n9 : Grew w3.heap.size w3, n9.w.cell? ⟨w1.heap.size, 5, none⟩ = some (.int .i64 S) := fun n9 => (n9.below.cell (by first | assumption | (simp; done) | (simp; omega))).trans (by first | assumption | (simp; done) | simp [*])
  have g_w5_2_0 : ∀ n9 : Grew w3.heap.size w3, n9.w.cell? ⟨w2.heap.size, 0, none⟩ = some (.slice ad2 m cap2) := fun n9 => (n9.below.cell (by first | assumption | (simp; done) | (simp; omega))).trans (by first | assumption | (simp; done) | simp [*])
  have g_w5_2_1 : ∀ n9 : Grew w3.heap.size w3, n9.w.cell? ⟨w2.heap.size, 1, none⟩ = some (.int .i64 A) := fun n9 => (n9.below.cell (by first | assumption | (simp; done) | (simp; omega))).trans (by first | assumption | (simp; done) | simp [*])
  have g_w5_2_2 : ∀ n9 : Grew w3.heap.size w3, n9.w.cell? ⟨w2.heap.size, 2, none⟩ = some (.int .i64 B) := fun n9 => (n9.below.cell (by first | assumption | (simp; done) | (simp; omega))).trans (by first | assumption | (simp; done) | simp [*])
  have g_w5_2_3 : ∀ n9 : Grew w3.heap.size w3, n9.w.cell? ⟨w2.heap.size, 3, none⟩ = some (.int .i64 C) := fun n9 => (n9.below.cell (by first | assumption | (simp; done) | (simp; omega))).trans (by first | assumption | (simp; done) | simp [*])
  have g_w5_2_4 : ∀ n9 : Grew w3.heap.size w3, n9.w.cell? ⟨w2.heap.size, 4, none⟩ = some (.int .i64 D) := fun n9 => (n9.below.cell (by first | assumption | (simp; done) | (simp; omega))).trans (by first | assumption | (simp; done) | simp [*])
  have g_w5_2_5 : ∀ n9 : Grew w3.heap.size w3, n9.w.cell? ⟨w2.heap.size, 5, none⟩ = some (.int .i64 S) := fun n9 => (n9.below.cell (by first | assumption | (simp; done) | (simp; omega))).trans (by first | assumption | (simp; done) | simp [*])
  refine wp_region_grew w3.heap.size (by kernel_rfl) (by kernel_rfl) ?_
  repeat (go_big_quiet_step ((first | (go_at_call 38; exact grew_call (Nat.le_refl _) (HS.out _ _ _ (hr1.below (Grew.below _) (Nat.le_refl _)) (hr2.below (Grew.below _) (Nat.le_refl _)))) | (go_at_call 36; exact grew_call (Nat.le_refl _) (HC.out _ (Grew.since _ B_w3 B_w3.size))) | (go_at_call 37; exact grew_call (Nat.le_refl _) (HR.out _ (Grew.since _ B_w3 B_w3.size))))))
  refine wpQuiet_nil ?_
  rintro w5 ⟨n_w5, hn_w5⟩
  have hb_w5 : Below w3.heap.size w3 w5 := by rw [hn_w5]; exact n_w5.below
  clear hn_w5 n_w5
  have B_w5 : Below w.heap.size w w5 := B_w3.trans (hb_w5.mono B_w3.size)
  have z_w5_0 : w.heap.size < w5.heap.size := by have := hb_w5.size; omega
  have c_w5_0_0 : w5.cell? ⟨w.heap.size, 0, none⟩ = some (.slice a n cap) := (hb_w5.cell (by assumption)).trans (by assumption)
  have c_w5_0_1 : w5.cell? ⟨w.heap.size, 1, none⟩ = some (.int .i64 pa) := (hb_w5.cell (by assumption)).trans (by assumption)
  have c_w5_0_2 : w5.cell? ⟨w.heap.size, 2, none⟩ = some (.int .i64 pb) := (hb_w5.cell (by assumption)).trans (by assumption)
  have c_w5_0_3 : w5.cell? ⟨w.heap.size, 3, none⟩ = some (.int .i64 ga) := (hb_w5.cell (by assumption)).trans (by assumption)
  have c_w5_0_4 : w5.cell? ⟨w.heap.size, 4, none⟩ = some (.int .i64 gb) := (hb_w5.cell (by assumption)).trans (by assumption)
  have c_w5_0_5 : w5.cell? ⟨w.heap.size, 5, none⟩ = some (.int .i64 se) := (hb_w5.cell (by assumption)).trans (by assumption)
  have z_w5_1 : w1.heap.size < w5.heap.size := by have := hb_w5.size; omega
  have c_w5_1_0 : w5.cell? ⟨w1.heap.size, 0, none⟩ = some (.slice ad1 m cap1) := (hb_w5.cell (by assumption)).trans (by assumption)
  have c_w5_1_1 : w5.cell? ⟨w1.heap.size, 1, none⟩ = some (.int .i64 A) := (hb_w5.cell (by assumption)).trans (by assumption)
  have c_w5_1_2 : w5.cell? ⟨w1.heap.size, 2, none⟩ = some (.int .i64 B) := (hb_w5.cell (by assumption)).trans (by assumption)
  have c_w5_1_3 : w5.cell? ⟨w1.heap.size, 3, none⟩ = some (.int .i64 C) := (hb_w5.cell (by assumption)).trans (by assumption)
  have c_w5_1_4 : w5.cell? ⟨w1.heap.size, 4, none⟩ = some (.int .i64 D) := (hb_w5.cell (by assumption)).trans (by assumption)
  have c_w5_1_5 : w5.cell? ⟨w1.heap.size, 5, none⟩ = some (.int .i64 S) := (hb_w5.cell (by assumption)).trans (by assumption)
  have z_w5_2 : w2.heap.size < w5.heap.size := by have := hb_w5.size; omega
  have c_w5_2_0 : w5.cell? ⟨w2.heap.size, 0, none⟩ = some (.slice ad2 m cap2) := (hb_w5.cell (by assumption)).trans (by assumption)
  have c_w5_2_1 : w5.cell? ⟨w2.heap.size, 1, none⟩ = some (.int .i64 A) := (hb_w5.cell (by assumption)).trans (by assumption)
  have c_w5_2_2 : w5.cell? ⟨w2.heap.size, 2, none⟩ = some (.int .i64 B) := (hb_w5.cell (by assumption)).trans (by assumption)
  have c_w5_2_3 : w5.cell? ⟨w2.heap.size, 3, none⟩ = some (.int .i64 C) := (hb_w5.cell (by assumption)).trans (by assumption)
  have c_w5_2_4 : w5.cell? ⟨w2.heap.size, 4, none⟩ = some (.int .i64 D) := (hb_w5.cell (by assumption)).trans (by assumption)
  have c_w5_2_5 : w5.cell? ⟨w2.heap.size, 5, none⟩ = some (.int .i64 S) := (hb_w5.cell (by assumption)).trans (by assumption)
  clear g_w5_0_0 g_w5_0_1 g_w5_0_2 g_w5_0_3 g_w5_0_4 g_w5_0_5 g_w5_1_0 g_w5_1_1 g_w5_1_2 g_w5_1_3 g_w5_1_4 g_w5_1_5 g_w5_2_0 g_w5_2_1 g_w5_2_2 g_w5_2_3 g_w5_2_4 g_w5_2_5 c_w3_0_0 c_w3_0_1 c_w3_0_2 c_w3_0_3 c_w3_0_4 c_w3_0_5 c_w3_1_0 c_w3_1_1 c_w3_1_2 c_w3_1_3 c_w3_1_4 c_w3_1_5 c_w3_2_0 c_w3_2_1 c_w3_2_2 c_w3_2_3 c_w3_2_4 c_w3_2_5 z_w3_0 z_w3_1 z_w3_2 B_w3 hb_w5
  go_wp2_with fail
  go_ret
  exact ⟨by simp, B_w5⟩
end Go.Proofs.Ytkhfbleldchnpaa
