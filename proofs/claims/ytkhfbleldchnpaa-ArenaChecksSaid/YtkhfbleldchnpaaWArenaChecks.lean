/- The walk of the law ArenaChecks. -/
import Derived.Test.YtkhfbleldchnpaaArena2
namespace Go.Proofs.Ytkhfbleldchnpaa
open Go.RowKit
set_option linter.unusedVariables false
set_option maxRecDepth 100000

set_option maxHeartbeats 1000000 in
theorem arenaChecks_walk (n : Int) (hn : (Lit.int .i64 n).wf = true) (size : Int) (hsw : (Lit.int .i64 size).wf = true) (w : World) (a : Option Addr) (cap : Nat) (l : List (Int × Int)) (hr : Reads w 2 (.slice a l.length cap) l.length (pairs l)) (hlw : ∀ p ∈ l, (Lit.int .i64 p.1).wf = true ∧ (Lit.int .i64 p.2).wf = true) :
    Calls Try.prog 6 #[.int .i64 n, .agg #[.int .i64 size, .slice a l.length cap]] w fun r w' => r = .returned (.bool true) ∧ Below w.heap.size w w' := by
  have hs := i64_of hsw
  have hl : ∀ p ∈ l, I64 p.1 ∧ I64 p.2 := fun p hp => ⟨i64_of (hlw p hp).1, i64_of (hlw p hp).2⟩
  have HN := Lib.hid (newA_any n)
  have HR := Lib.hid hr
  have HF : Hid (∀ w' : World, Below w.heap.size w w' → Calls Try.prog 25 #[.agg #[.int .i64 size, .slice a l.length cap]] w' fun r w'' => r = .returned (.tuple #[.int .i64 (freeN size l), .int .i64 (arErr size l)]) ∧ Below w'.heap.size w' w'') := fun w' hb => freeA_any size hs a cap l hl w' (hr.below hb (Nat.le_refl _))
  have HA : Hid (∀ w' : World, Below w.heap.size w w' → Calls Try.prog 26 #[.agg #[.int .i64 size, .slice a l.length cap]] w' fun r w'' => r = .returned (.int .i64 (arErr size l)) ∧ Below w'.heap.size w' w'') := fun w' hb => arenaR_any size hs a cap l hl w' (hr.below hb (Nat.le_refl _))
  have HC : Hid (∀ w' : World, Below w.heap.size w w' → Calls Try.prog 29 #[.agg #[.int .i64 size, .slice a l.length cap]] w' fun r w'' => r = .returned (.int .i64 (arErr size l)) ∧ Below w'.heap.size w' w'') := fun w' hb => checkA_any size hs a cap l hl w' (hr.below hb (Nat.le_refl _))
  have HS : Hid (∀ (m : Int) (w' : World), Calls Try.prog 28 #[.agg #[.int .i64 m, .slice none 0 0], .agg #[.int .i64 m, .slice none 0 0]] w' fun r w'' => r = .returned (.bool true) ∧ Below w'.heap.size w' w'') := fun m w' => by
    have h := sameArena_any m m (.slice none 0 0) (.slice none 0 0) [] [] w' (Reads.nil _ _) (Reads.nil _ _)
    simpa using h
  have HT : Hid (arErr size l = 0 → ∀ w' : World, Below w.heap.size w w' → Calls Try.prog 27 #[.agg #[.int .i64 size, .slice a l.length cap]] w' fun r w'' => ∃ v, r = .returned v ∧ w''.ownsRow w'.heap.size 4 1 v size.toNat (boolRow size.toNat (cov l)) ∧ Below w'.heap.size w' w'') := fun hE w' hb => takenR_any size a cap l hE w' (hr.below hb (Nat.le_refl _))
  have HK : Hid (arErr size l = 0 → (cnt (fun i => !cov l i) size.toNat : Int) = freeN size l) := cnt_free size l
  have HZ : Hid (arErr size l ≠ 0 → freeN size l = 0) := fun h => if_neg h
  clear hn hsw hr hlw hl hs
  obtain ⟨m, hm, hcase⟩ : ∃ m, newSize n = m ∧ ((1 ≤ n ∧ n ≤ 65536 ∧ m = n ∧ newErr n = 0) ∨ (n < 1 ∧ m = 0 ∧ newErr n = 1) ∨ (65536 < n ∧ m = 0 ∧ newErr n = 1)) := by
    refine ⟨_, rfl, ?_⟩
    unfold newErr newSize
    by_cases h : n < 1 ∨ 65536 < n
    · rw [if_pos h, if_pos h]; right; omega
    · rw [if_neg h, if_neg h]; left; omega
  rw [hm] at HN
  clear hm
  generalize newErr n = ne at *
  generalize hE : arErr size l = ae at *
  by_cases h0 : ae = 0
  · subst h0
    have h3 := HT.out rfl
    have h4 := HK.out rfl
    have H3 := Lib.hid h3
    have H4 := Lib.hid h4
    clear h3 h4 HT HK HZ
    have hE2 := arErr_ok hE
    have hsz : 0 < size.toNat ∧ size.toNat ≤ 65536 := by omega
    clear hE2 hE
    obtain ⟨h1, h2, rfl, rfl⟩ | ⟨h1, rfl, rfl⟩ | ⟨h1, rfl, rfl⟩ := hcase
    · have hm0 : (0 : Int) < m := by omega
      go_enter Try.func6, Try.ntmps6
      go_wp2_with fail
      refine (HN.out _).mono ?_
      rintro r_w1 w1 ⟨rfl, hb_w1⟩
      have B_w1 : Below w.heap.size w w1 := by first | exact hb_w1 | exact ((Below.refl _ _).alloc (Nat.le_refl _) _).trans (hb_w1.mono (by simp)) | exact (((Below.refl _ _).alloc (Nat.le_refl _) _).alloc (by simp) _).trans (hb_w1.mono (by simp; omega)) | exact Below.trans (by go_grown) (hb_w1.mono (by simp; omega))
      have z_w1_0 : w.heap.size < w1.heap.size := by have := hb_w1.size; first | omega | (simp at this; omega)
      have c_w1_0_0 : w1.cell? ⟨w.heap.size, 0, none⟩ = some (.int .i64 size) := (hb_w1.cell (by first | assumption | (simp; done) | (simp; omega))).trans (by first | assumption | (simp; done) | (simp [*]; done) | ((repeat rw [World.cell?_alloc_lt _ _ _ (by first | (simp; done) | (simp; omega) | omega)]); first | assumption | (simp; done)))
      have c_w1_0_1 : w1.cell? ⟨w.heap.size, 1, none⟩ = some (.slice a l.length cap) := (hb_w1.cell (by first | assumption | (simp; done) | (simp; omega))).trans (by first | assumption | (simp; done) | (simp [*]; done) | ((repeat rw [World.cell?_alloc_lt _ _ _ (by first | (simp; done) | (simp; omega) | omega)]); first | assumption | (simp; done)))
      clear hb_w1
      go_wp2_with fail
      refine (HF.out _ (by first | exact B_w1 | (have := B_w1.size; go_grown))).mono ?_
      rintro r_w2 w2 ⟨rfl, hb_w2⟩
      have B_w2 : Below w.heap.size w w2 := by first | exact B_w1.trans (hb_w2.mono B_w1.size) | exact (B_w1.alloc B_w1.size _).trans (hb_w2.mono (by have := B_w1.size; simp; omega)) | exact ((B_w1.alloc B_w1.size _).alloc (by have := B_w1.size; simp; omega) _).trans (hb_w2.mono (by have := B_w1.size; simp; omega)) | (have := B_w1.size; exact Below.trans (by go_grown) (hb_w2.mono (by simp; omega)))
      have z_w2_0 : w.heap.size < w2.heap.size := by have := hb_w2.size; first | omega | (simp at this; omega)
      have c_w2_0_0 : w2.cell? ⟨w.heap.size, 0, none⟩ = some (.int .i64 size) := (hb_w2.cell (by first | assumption | (simp; done) | (simp; omega))).trans (by first | assumption | (simp; done) | (simp [*]; done) | ((repeat rw [World.cell?_alloc_lt _ _ _ (by first | (simp; done) | (simp; omega) | omega)]); first | assumption | (simp; done)))
      have c_w2_0_1 : w2.cell? ⟨w.heap.size, 1, none⟩ = some (.slice a l.length cap) := (hb_w2.cell (by first | assumption | (simp; done) | (simp; omega))).trans (by first | assumption | (simp; done) | (simp [*]; done) | ((repeat rw [World.cell?_alloc_lt _ _ _ (by first | (simp; done) | (simp; omega) | omega)]); first | assumption | (simp; done)))
      have z_w2_1 : w1.heap.size < w2.heap.size := by have := hb_w2.size; first | omega | (simp at this; omega)
      have c_w2_1_0 : w2.cell? ⟨w1.heap.size, 0, none⟩ = some (.int .i64 m) := (hb_w2.cell (by first | assumption | (simp; done) | (simp; omega))).trans (by first | assumption | (simp; done) | (simp [*]; done) | ((repeat rw [World.cell?_alloc_lt _ _ _ (by first | (simp; done) | (simp; omega) | omega)]); first | assumption | (simp; done)))
      have c_w2_1_1 : w2.cell? ⟨w1.heap.size, 1, none⟩ = some (.slice none 0 0) := (hb_w2.cell (by first | assumption | (simp; done) | (simp; omega))).trans (by first | assumption | (simp; done) | (simp [*]; done) | ((repeat rw [World.cell?_alloc_lt _ _ _ (by first | (simp; done) | (simp; omega) | omega)]); first | assumption | (simp; done)))
      have z_w2_2 : w1.heap.size + 1 < w2.heap.size := by have := hb_w2.size; first | omega | (simp at this; omega)
      have c_w2_2_0 : w2.cell? ⟨w1.heap.size + 1, 0, none⟩ = some (.int .i64 m) := (hb_w2.cell (by first | assumption | (simp; done) | (simp; omega))).trans (by first | assumption | (simp; done) | (simp [*]; done) | ((repeat rw [World.cell?_alloc_lt _ _ _ (by first | (simp; done) | (simp; omega) | omega)]); first | assumption | (simp; done)))
      have c_w2_2_1 : w2.cell? ⟨w1.heap.size + 1, 1, none⟩ = some (.slice none 0 0) := (hb_w2.cell (by first | assumption | (simp; done) | (simp; omega))).trans (by first | assumption | (simp; done) | (simp [*]; done) | ((repeat rw [World.cell?_alloc_lt _ _ _ (by first | (simp; done) | (simp; omega) | omega)]); first | assumption | (simp; done)))
      clear c_w1_0_0 c_w1_0_1 z_w1_0 B_w1 hb_w2
      go_wp2_with fail
      refine (HA.out _ (by first | exact B_w2 | (have := B_w2.size; go_grown))).mono ?_
      rintro r_w3 w3 ⟨rfl, hb_w3⟩
      have B_w3 : Below w.heap.size w w3 := by first | exact B_w2.trans (hb_w3.mono B_w2.size) | exact (B_w2.alloc B_w2.size _).trans (hb_w3.mono (by have := B_w2.size; simp; omega)) | exact ((B_w2.alloc B_w2.size _).alloc (by have := B_w2.size; simp; omega) _).trans (hb_w3.mono (by have := B_w2.size; simp; omega)) | (have := B_w2.size; exact Below.trans (by go_grown) (hb_w3.mono (by simp; omega)))
      have z_w3_0 : w.heap.size < w3.heap.size := by have := hb_w3.size; first | omega | (simp at this; omega)
      have c_w3_0_0 : w3.cell? ⟨w.heap.size, 0, none⟩ = some (.int .i64 size) := (hb_w3.cell (by first | assumption | (simp; done) | (simp; omega))).trans (by first | assumption | (simp; done) | (simp [*]; done) | ((repeat rw [World.cell?_alloc_lt _ _ _ (by first | (simp; done) | (simp; omega) | omega)]); first | assumption | (simp; done)))
      have c_w3_0_1 : w3.cell? ⟨w.heap.size, 1, none⟩ = some (.slice a l.length cap) := (hb_w3.cell (by first | assumption | (simp; done) | (simp; omega))).trans (by first | assumption | (simp; done) | (simp [*]; done) | ((repeat rw [World.cell?_alloc_lt _ _ _ (by first | (simp; done) | (simp; omega) | omega)]); first | assumption | (simp; done)))
      have z_w3_1 : w1.heap.size < w3.heap.size := by have := hb_w3.size; first | omega | (simp at this; omega)
      have c_w3_1_0 : w3.cell? ⟨w1.heap.size, 0, none⟩ = some (.int .i64 m) := (hb_w3.cell (by first | assumption | (simp; done) | (simp; omega))).trans (by first | assumption | (simp; done) | (simp [*]; done) | ((repeat rw [World.cell?_alloc_lt _ _ _ (by first | (simp; done) | (simp; omega) | omega)]); first | assumption | (simp; done)))
      have c_w3_1_1 : w3.cell? ⟨w1.heap.size, 1, none⟩ = some (.slice none 0 0) := (hb_w3.cell (by first | assumption | (simp; done) | (simp; omega))).trans (by first | assumption | (simp; done) | (simp [*]; done) | ((repeat rw [World.cell?_alloc_lt _ _ _ (by first | (simp; done) | (simp; omega) | omega)]); first | assumption | (simp; done)))
      have z_w3_2 : w1.heap.size + 1 < w3.heap.size := by have := hb_w3.size; first | omega | (simp at this; omega)
      have c_w3_2_0 : w3.cell? ⟨w1.heap.size + 1, 0, none⟩ = some (.int .i64 m) := (hb_w3.cell (by first | assumption | (simp; done) | (simp; omega))).trans (by first | assumption | (simp; done) | (simp [*]; done) | ((repeat rw [World.cell?_alloc_lt _ _ _ (by first | (simp; done) | (simp; omega) | omega)]); first | assumption | (simp; done)))
      have c_w3_2_1 : w3.cell? ⟨w1.heap.size + 1, 1, none⟩ = some (.slice none 0 0) := (hb_w3.cell (by first | assumption | (simp; done) | (simp; omega))).trans (by first | assumption | (simp; done) | (simp [*]; done) | ((repeat rw [World.cell?_alloc_lt _ _ _ (by first | (simp; done) | (simp; omega) | omega)]); first | assumption | (simp; done)))
      clear c_w2_0_0 c_w2_0_1 c_w2_1_0 c_w2_1_1 c_w2_2_0 c_w2_2_1 z_w2_0 z_w2_1 z_w2_2 B_w2 hb_w3
      go_wp2_with fail
      refine (H3.out _ (by first | exact B_w3 | (have := B_w3.size; go_grown))).mono ?_
      rintro r_w4 w4 ⟨v, rfl, hown, hb_w4⟩
      have B_w4 : Below w.heap.size w w4 := by first | exact B_w3.trans (hb_w4.mono B_w3.size) | exact (B_w3.alloc B_w3.size _).trans (hb_w4.mono (by have := B_w3.size; simp; omega)) | exact ((B_w3.alloc B_w3.size _).alloc (by have := B_w3.size; simp; omega) _).trans (hb_w4.mono (by have := B_w3.size; simp; omega)) | (have := B_w3.size; exact Below.trans (by go_grown) (hb_w4.mono (by simp; omega)))
      have z_w4_0 : w.heap.size < w4.heap.size := by have := hb_w4.size; first | omega | (simp at this; omega)
      have c_w4_0_0 : w4.cell? ⟨w.heap.size, 0, none⟩ = some (.int .i64 size) := (hb_w4.cell (by first | assumption | (simp; done) | (simp; omega))).trans (by first | assumption | (simp; done) | (simp [*]; done) | ((repeat rw [World.cell?_alloc_lt _ _ _ (by first | (simp; done) | (simp; omega) | omega)]); first | assumption | (simp; done)))
      have c_w4_0_1 : w4.cell? ⟨w.heap.size, 1, none⟩ = some (.slice a l.length cap) := (hb_w4.cell (by first | assumption | (simp; done) | (simp; omega))).trans (by first | assumption | (simp; done) | (simp [*]; done) | ((repeat rw [World.cell?_alloc_lt _ _ _ (by first | (simp; done) | (simp; omega) | omega)]); first | assumption | (simp; done)))
      have z_w4_1 : w1.heap.size < w4.heap.size := by have := hb_w4.size; first | omega | (simp at this; omega)
      have c_w4_1_0 : w4.cell? ⟨w1.heap.size, 0, none⟩ = some (.int .i64 m) := (hb_w4.cell (by first | assumption | (simp; done) | (simp; omega))).trans (by first | assumption | (simp; done) | (simp [*]; done) | ((repeat rw [World.cell?_alloc_lt _ _ _ (by first | (simp; done) | (simp; omega) | omega)]); first | assumption | (simp; done)))
      have c_w4_1_1 : w4.cell? ⟨w1.heap.size, 1, none⟩ = some (.slice none 0 0) := (hb_w4.cell (by first | assumption | (simp; done) | (simp; omega))).trans (by first | assumption | (simp; done) | (simp [*]; done) | ((repeat rw [World.cell?_alloc_lt _ _ _ (by first | (simp; done) | (simp; omega) | omega)]); first | assumption | (simp; done)))
      have z_w4_2 : w1.heap.size + 1 < w4.heap.size := by have := hb_w4.size; first | omega | (simp at this; omega)
      have c_w4_2_0 : w4.cell? ⟨w1.heap.size + 1, 0, none⟩ = some (.int .i64 m) := (hb_w4.cell (by first | assumption | (simp; done) | (simp; omega))).trans (by first | assumption | (simp; done) | (simp [*]; done) | ((repeat rw [World.cell?_alloc_lt _ _ _ (by first | (simp; done) | (simp; omega) | omega)]); first | assumption | (simp; done)))
      have c_w4_2_1 : w4.cell? ⟨w1.heap.size + 1, 1, none⟩ = some (.slice none 0 0) := (hb_w4.cell (by first | assumption | (simp; done) | (simp; omega))).trans (by first | assumption | (simp; done) | (simp [*]; done) | ((repeat rw [World.cell?_alloc_lt _ _ _ (by first | (simp; done) | (simp; omega) | omega)]); first | assumption | (simp; done)))
      clear c_w3_0_0 c_w3_0_1 c_w3_1_0 c_w3_1_1 c_w3_2_0 c_w3_2_1 z_w3_0 z_w3_1 z_w3_2 B_w3 hb_w4
      have hpos : 0 < size.toNat := hsz.1
      obtain ⟨g, cap', rfl, hg1, hg2⟩ := hown.form hpos
      generalize size.toNat = N at *
      go_wp2_with fail
      go_loop [10, 38] (fun f i => ∃ k : Nat, k ≤ N ∧ i = .int .i64 k ∧ f = .int .i64 (cnt (fun i => !cov l i) k : Nat) ∧ cnt (fun i => !cov l i) k ≤ k) (fun _ i => N - (intOf i).toNat)
      case atStart => exact ⟨0, Nat.zero_le _, rfl, rfl, Nat.le_refl _⟩
      case round =>
        obtain ⟨k, hk, rfl, rfl, hck⟩ := hrel
        by_cases hlt : k < N
        · have hc := hown.cellAt k (by omega)
          rw [boolRow_get _ _ _ hlt] at hc
          have hn : cnt (fun i => !cov l i) (k + 1) = cnt (fun i => !cov l i) k + if cov l k then 0 else 1 := by
            rw [cnt]
            cases cov l k <;> rfl
          generalize cov l k = b at *
          have HN2 := Lib.hid hn
          clear hn
          generalize cnt (fun i => !cov l i) k = ck at *
          cases b with
          | true =>
            go_wp2_with fail
            go_round
            case rel => exact ⟨k + 1, by omega, by go_num, by rw [HN2.out]; simp, by rw [HN2.out]; simp; omega⟩
            case measure => simp [intOf]; omega
          | false =>
            go_wp2_with fail
            go_round
            case rel => exact ⟨k + 1, by omega, by go_num, by rw [HN2.out]; simp, by rw [HN2.out]; simp; omega⟩
            case measure => simp [intOf]; omega
        · obtain rfl : k = N := by omega
          have hk2 := H4.out
          rw [hk2]
          clear hk2
          go_wp2_with fail
          have g_w5_0_0 : ∀ n : Grew w4.heap.size w4, n.w.cell? ⟨w.heap.size, 0, none⟩ = some (.int .i64 size) := fun n => (n.below.cell (by first | assumption | (simp; done) | (simp; omega))).trans (by first | assumption | (simp; done) | simp [*])
          have g_w5_0_1 : ∀ n : Grew w4.heap.size w4, n.w.cell? ⟨w.heap.size, 1, none⟩ = some (.slice a l.length cap) := fun n => (n.below.cell (by first | assumption | (simp; done) | (simp; omega))).trans (by first | assumption | (simp; done) | simp [*])
          have g_w5_1_0 : ∀ n : Grew w4.heap.size w4, n.w.cell? ⟨w1.heap.size, 0, none⟩ = some (.int .i64 m) := fun n => (n.below.cell (by first | assumption | (simp; done) | (simp; omega))).trans (by first | assumption | (simp; done) | simp [*])
          have g_w5_1_1 : ∀ n : Grew w4.heap.size w4, n.w.cell? ⟨w1.heap.size, 1, none⟩ = some (.slice none 0 0) := fun n => (n.below.cell (by first | assumption | (simp; done) | (simp; omega))).trans (by first | assumption | (simp; done) | simp [*])
          have g_w5_2_0 : ∀ n : Grew w4.heap.size w4, n.w.cell? ⟨w1.heap.size + 1, 0, none⟩ = some (.int .i64 m) := fun n => (n.below.cell (by first | assumption | (simp; done) | (simp; omega))).trans (by first | assumption | (simp; done) | simp [*])
          have g_w5_2_1 : ∀ n : Grew w4.heap.size w4, n.w.cell? ⟨w1.heap.size + 1, 1, none⟩ = some (.slice none 0 0) := fun n => (n.below.cell (by first | assumption | (simp; done) | (simp; omega))).trans (by first | assumption | (simp; done) | simp [*])
          refine wp_region_grew w4.heap.size (by kernel_rfl) (by kernel_rfl) ?_
          repeat (go_big_quiet_step ((first | (go_at_call 28; exact grew_call (Nat.le_refl _) (HS.out _ _)) | (go_at_call 29; exact grew_call (Nat.le_refl _) (HC.out _ (Grew.since _ B_w4 B_w4.size))) | (go_at_call 26; exact grew_call (Nat.le_refl _) (HA.out _ (Grew.since _ B_w4 B_w4.size))))))
          refine wpQuiet_nil ?_
          rintro w5 ⟨n_w5, hn_w5⟩
          have hb_w5 : Below w4.heap.size w4 w5 := by rw [hn_w5]; exact n_w5.below
          clear hn_w5 n_w5
          have B_w5 : Below w.heap.size w w5 := B_w4.trans (hb_w5.mono B_w4.size)
          have z_w5_0 : w.heap.size < w5.heap.size := by have := hb_w5.size; omega
          have c_w5_0_0 : w5.cell? ⟨w.heap.size, 0, none⟩ = some (.int .i64 size) := (hb_w5.cell (by assumption)).trans (by assumption)
          have c_w5_0_1 : w5.cell? ⟨w.heap.size, 1, none⟩ = some (.slice a l.length cap) := (hb_w5.cell (by assumption)).trans (by assumption)
          have z_w5_1 : w1.heap.size < w5.heap.size := by have := hb_w5.size; omega
          have c_w5_1_0 : w5.cell? ⟨w1.heap.size, 0, none⟩ = some (.int .i64 m) := (hb_w5.cell (by assumption)).trans (by assumption)
          have c_w5_1_1 : w5.cell? ⟨w1.heap.size, 1, none⟩ = some (.slice none 0 0) := (hb_w5.cell (by assumption)).trans (by assumption)
          have z_w5_2 : w1.heap.size + 1 < w5.heap.size := by have := hb_w5.size; omega
          have c_w5_2_0 : w5.cell? ⟨w1.heap.size + 1, 0, none⟩ = some (.int .i64 m) := (hb_w5.cell (by assumption)).trans (by assumption)
          have c_w5_2_1 : w5.cell? ⟨w1.heap.size + 1, 1, none⟩ = some (.slice none 0 0) := (hb_w5.cell (by assumption)).trans (by assumption)
          clear g_w5_0_0 g_w5_0_1 g_w5_1_0 g_w5_1_1 g_w5_2_0 g_w5_2_1 c_w4_0_0 c_w4_0_1 c_w4_1_0 c_w4_1_1 c_w4_2_0 c_w4_2_1 z_w4_0 z_w4_1 z_w4_2 B_w4 hb_w5
          go_wp2_with fail
          go_ret
          exact ⟨rfl, B_w5⟩
    all_goals
      go_enter Try.func6, Try.ntmps6
      go_wp2_with fail
      refine (HN.out _).mono ?_
      rintro r_w1 w1 ⟨rfl, hb_w1⟩
      have B_w1 : Below w.heap.size w w1 := by first | exact hb_w1 | exact ((Below.refl _ _).alloc (Nat.le_refl _) _).trans (hb_w1.mono (by simp)) | exact (((Below.refl _ _).alloc (Nat.le_refl _) _).alloc (by simp) _).trans (hb_w1.mono (by simp; omega)) | exact Below.trans (by go_grown) (hb_w1.mono (by simp; omega))
      have z_w1_0 : w.heap.size < w1.heap.size := by have := hb_w1.size; first | omega | (simp at this; omega)
      have c_w1_0_0 : w1.cell? ⟨w.heap.size, 0, none⟩ = some (.int .i64 size) := (hb_w1.cell (by first | assumption | (simp; done) | (simp; omega))).trans (by first | assumption | (simp; done) | (simp [*]; done) | ((repeat rw [World.cell?_alloc_lt _ _ _ (by first | (simp; done) | (simp; omega) | omega)]); first | assumption | (simp; done)))
      have c_w1_0_1 : w1.cell? ⟨w.heap.size, 1, none⟩ = some (.slice a l.length cap) := (hb_w1.cell (by first | assumption | (simp; done) | (simp; omega))).trans (by first | assumption | (simp; done) | (simp [*]; done) | ((repeat rw [World.cell?_alloc_lt _ _ _ (by first | (simp; done) | (simp; omega) | omega)]); first | assumption | (simp; done)))
      clear hb_w1
      go_wp2_with fail
      refine (HF.out _ (by first | exact B_w1 | (have := B_w1.size; go_grown))).mono ?_
      rintro r_w2 w2 ⟨rfl, hb_w2⟩
      have B_w2 : Below w.heap.size w w2 := by first | exact B_w1.trans (hb_w2.mono B_w1.size) | exact (B_w1.alloc B_w1.size _).trans (hb_w2.mono (by have := B_w1.size; simp; omega)) | exact ((B_w1.alloc B_w1.size _).alloc (by have := B_w1.size; simp; omega) _).trans (hb_w2.mono (by have := B_w1.size; simp; omega)) | (have := B_w1.size; exact Below.trans (by go_grown) (hb_w2.mono (by simp; omega)))
      have z_w2_0 : w.heap.size < w2.heap.size := by have := hb_w2.size; first | omega | (simp at this; omega)
      have c_w2_0_0 : w2.cell? ⟨w.heap.size, 0, none⟩ = some (.int .i64 size) := (hb_w2.cell (by first | assumption | (simp; done) | (simp; omega))).trans (by first | assumption | (simp; done) | (simp [*]; done) | ((repeat rw [World.cell?_alloc_lt _ _ _ (by first | (simp; done) | (simp; omega) | omega)]); first | assumption | (simp; done)))
      have c_w2_0_1 : w2.cell? ⟨w.heap.size, 1, none⟩ = some (.slice a l.length cap) := (hb_w2.cell (by first | assumption | (simp; done) | (simp; omega))).trans (by first | assumption | (simp; done) | (simp [*]; done) | ((repeat rw [World.cell?_alloc_lt _ _ _ (by first | (simp; done) | (simp; omega) | omega)]); first | assumption | (simp; done)))
      have z_w2_1 : w1.heap.size < w2.heap.size := by have := hb_w2.size; first | omega | (simp at this; omega)
      have c_w2_1_0 : w2.cell? ⟨w1.heap.size, 0, none⟩ = some (.int .i64 0) := (hb_w2.cell (by first | assumption | (simp; done) | (simp; omega))).trans (by first | assumption | (simp; done) | (simp [*]; done) | ((repeat rw [World.cell?_alloc_lt _ _ _ (by first | (simp; done) | (simp; omega) | omega)]); first | assumption | (simp; done)))
      have c_w2_1_1 : w2.cell? ⟨w1.heap.size, 1, none⟩ = some (.slice none 0 0) := (hb_w2.cell (by first | assumption | (simp; done) | (simp; omega))).trans (by first | assumption | (simp; done) | (simp [*]; done) | ((repeat rw [World.cell?_alloc_lt _ _ _ (by first | (simp; done) | (simp; omega) | omega)]); first | assumption | (simp; done)))
      have z_w2_2 : w1.heap.size + 1 < w2.heap.size := by have := hb_w2.size; first | omega | (simp at this; omega)
      have c_w2_2_0 : w2.cell? ⟨w1.heap.size + 1, 0, none⟩ = some (.int .i64 0) := (hb_w2.cell (by first | assumption | (simp; done) | (simp; omega))).trans (by first | assumption | (simp; done) | (simp [*]; done) | ((repeat rw [World.cell?_alloc_lt _ _ _ (by first | (simp; done) | (simp; omega) | omega)]); first | assumption | (simp; done)))
      have c_w2_2_1 : w2.cell? ⟨w1.heap.size + 1, 1, none⟩ = some (.slice none 0 0) := (hb_w2.cell (by first | assumption | (simp; done) | (simp; omega))).trans (by first | assumption | (simp; done) | (simp [*]; done) | ((repeat rw [World.cell?_alloc_lt _ _ _ (by first | (simp; done) | (simp; omega) | omega)]); first | assumption | (simp; done)))
      clear c_w1_0_0 c_w1_0_1 z_w1_0 B_w1 hb_w2
      go_wp2_with fail
      refine (HA.out _ (by first | exact B_w2 | (have := B_w2.size; go_grown))).mono ?_
      rintro r_w3 w3 ⟨rfl, hb_w3⟩
      have B_w3 : Below w.heap.size w w3 := by first | exact B_w2.trans (hb_w3.mono B_w2.size) | exact (B_w2.alloc B_w2.size _).trans (hb_w3.mono (by have := B_w2.size; simp; omega)) | exact ((B_w2.alloc B_w2.size _).alloc (by have := B_w2.size; simp; omega) _).trans (hb_w3.mono (by have := B_w2.size; simp; omega)) | (have := B_w2.size; exact Below.trans (by go_grown) (hb_w3.mono (by simp; omega)))
      have z_w3_0 : w.heap.size < w3.heap.size := by have := hb_w3.size; first | omega | (simp at this; omega)
      have c_w3_0_0 : w3.cell? ⟨w.heap.size, 0, none⟩ = some (.int .i64 size) := (hb_w3.cell (by first | assumption | (simp; done) | (simp; omega))).trans (by first | assumption | (simp; done) | (simp [*]; done) | ((repeat rw [World.cell?_alloc_lt _ _ _ (by first | (simp; done) | (simp; omega) | omega)]); first | assumption | (simp; done)))
      have c_w3_0_1 : w3.cell? ⟨w.heap.size, 1, none⟩ = some (.slice a l.length cap) := (hb_w3.cell (by first | assumption | (simp; done) | (simp; omega))).trans (by first | assumption | (simp; done) | (simp [*]; done) | ((repeat rw [World.cell?_alloc_lt _ _ _ (by first | (simp; done) | (simp; omega) | omega)]); first | assumption | (simp; done)))
      have z_w3_1 : w1.heap.size < w3.heap.size := by have := hb_w3.size; first | omega | (simp at this; omega)
      have c_w3_1_0 : w3.cell? ⟨w1.heap.size, 0, none⟩ = some (.int .i64 0) := (hb_w3.cell (by first | assumption | (simp; done) | (simp; omega))).trans (by first | assumption | (simp; done) | (simp [*]; done) | ((repeat rw [World.cell?_alloc_lt _ _ _ (by first | (simp; done) | (simp; omega) | omega)]); first | assumption | (simp; done)))
      have c_w3_1_1 : w3.cell? ⟨w1.heap.size, 1, none⟩ = some (.slice none 0 0) := (hb_w3.cell (by first | assumption | (simp; done) | (simp; omega))).trans (by first | assumption | (simp; done) | (simp [*]; done) | ((repeat rw [World.cell?_alloc_lt _ _ _ (by first | (simp; done) | (simp; omega) | omega)]); first | assumption | (simp; done)))
      have z_w3_2 : w1.heap.size + 1 < w3.heap.size := by have := hb_w3.size; first | omega | (simp at this; omega)
      have c_w3_2_0 : w3.cell? ⟨w1.heap.size + 1, 0, none⟩ = some (.int .i64 0) := (hb_w3.cell (by first | assumption | (simp; done) | (simp; omega))).trans (by first | assumption | (simp; done) | (simp [*]; done) | ((repeat rw [World.cell?_alloc_lt _ _ _ (by first | (simp; done) | (simp; omega) | omega)]); first | assumption | (simp; done)))
      have c_w3_2_1 : w3.cell? ⟨w1.heap.size + 1, 1, none⟩ = some (.slice none 0 0) := (hb_w3.cell (by first | assumption | (simp; done) | (simp; omega))).trans (by first | assumption | (simp; done) | (simp [*]; done) | ((repeat rw [World.cell?_alloc_lt _ _ _ (by first | (simp; done) | (simp; omega) | omega)]); first | assumption | (simp; done)))
      clear c_w2_0_0 c_w2_0_1 c_w2_1_0 c_w2_1_1 c_w2_2_0 c_w2_2_1 z_w2_0 z_w2_1 z_w2_2 B_w2 hb_w3
      go_wp2_with fail
      refine (H3.out _ (by first | exact B_w3 | (have := B_w3.size; go_grown))).mono ?_
      rintro r_w4 w4 ⟨v, rfl, hown, hb_w4⟩
      have B_w4 : Below w.heap.size w w4 := by first | exact B_w3.trans (hb_w4.mono B_w3.size) | exact (B_w3.alloc B_w3.size _).trans (hb_w4.mono (by have := B_w3.size; simp; omega)) | exact ((B_w3.alloc B_w3.size _).alloc (by have := B_w3.size; simp; omega) _).trans (hb_w4.mono (by have := B_w3.size; simp; omega)) | (have := B_w3.size; exact Below.trans (by go_grown) (hb_w4.mono (by simp; omega)))
      have z_w4_0 : w.heap.size < w4.heap.size := by have := hb_w4.size; first | omega | (simp at this; omega)
      have c_w4_0_0 : w4.cell? ⟨w.heap.size, 0, none⟩ = some (.int .i64 size) := (hb_w4.cell (by first | assumption | (simp; done) | (simp; omega))).trans (by first | assumption | (simp; done) | (simp [*]; done) | ((repeat rw [World.cell?_alloc_lt _ _ _ (by first | (simp; done) | (simp; omega) | omega)]); first | assumption | (simp; done)))
      have c_w4_0_1 : w4.cell? ⟨w.heap.size, 1, none⟩ = some (.slice a l.length cap) := (hb_w4.cell (by first | assumption | (simp; done) | (simp; omega))).trans (by first | assumption | (simp; done) | (simp [*]; done) | ((repeat rw [World.cell?_alloc_lt _ _ _ (by first | (simp; done) | (simp; omega) | omega)]); first | assumption | (simp; done)))
      have z_w4_1 : w1.heap.size < w4.heap.size := by have := hb_w4.size; first | omega | (simp at this; omega)
      have c_w4_1_0 : w4.cell? ⟨w1.heap.size, 0, none⟩ = some (.int .i64 0) := (hb_w4.cell (by first | assumption | (simp; done) | (simp; omega))).trans (by first | assumption | (simp; done) | (simp [*]; done) | ((repeat rw [World.cell?_alloc_lt _ _ _ (by first | (simp; done) | (simp; omega) | omega)]); first | assumption | (simp; done)))
      have c_w4_1_1 : w4.cell? ⟨w1.heap.size, 1, none⟩ = some (.slice none 0 0) := (hb_w4.cell (by first | assumption | (simp; done) | (simp; omega))).trans (by first | assumption | (simp; done) | (simp [*]; done) | ((repeat rw [World.cell?_alloc_lt _ _ _ (by first | (simp; done) | (simp; omega) | omega)]); first | assumption | (simp; done)))
      have z_w4_2 : w1.heap.size + 1 < w4.heap.size := by have := hb_w4.size; first | omega | (simp at this; omega)
      have c_w4_2_0 : w4.cell? ⟨w1.heap.size + 1, 0, none⟩ = some (.int .i64 0) := (hb_w4.cell (by first | assumption | (simp; done) | (simp; omega))).trans (by first | assumption | (simp; done) | (simp [*]; done) | ((repeat rw [World.cell?_alloc_lt _ _ _ (by first | (simp; done) | (simp; omega) | omega)]); first | assumption | (simp; done)))
      have c_w4_2_1 : w4.cell? ⟨w1.heap.size + 1, 1, none⟩ = some (.slice none 0 0) := (hb_w4.cell (by first | assumption | (simp; done) | (simp; omega))).trans (by first | assumption | (simp; done) | (simp [*]; done) | ((repeat rw [World.cell?_alloc_lt _ _ _ (by first | (simp; done) | (simp; omega) | omega)]); first | assumption | (simp; done)))
      clear c_w3_0_0 c_w3_0_1 c_w3_1_0 c_w3_1_1 c_w3_2_0 c_w3_2_1 z_w3_0 z_w3_1 z_w3_2 B_w3 hb_w4
      have hpos : 0 < size.toNat := hsz.1
      obtain ⟨g, cap', rfl, hg1, hg2⟩ := hown.form hpos
      generalize size.toNat = N at *
      go_wp2_with fail
      go_loop [10, 38] (fun f i => ∃ k : Nat, k ≤ N ∧ i = .int .i64 k ∧ f = .int .i64 (cnt (fun i => !cov l i) k : Nat) ∧ cnt (fun i => !cov l i) k ≤ k) (fun _ i => N - (intOf i).toNat)
      case atStart => exact ⟨0, Nat.zero_le _, rfl, rfl, Nat.le_refl _⟩
      case round =>
        obtain ⟨k, hk, rfl, rfl, hck⟩ := hrel
        by_cases hlt : k < N
        · have hc := hown.cellAt k (by omega)
          rw [boolRow_get _ _ _ hlt] at hc
          have hn : cnt (fun i => !cov l i) (k + 1) = cnt (fun i => !cov l i) k + if cov l k then 0 else 1 := by
            rw [cnt]
            cases cov l k <;> rfl
          generalize cov l k = b at *
          have HN2 := Lib.hid hn
          clear hn
          generalize cnt (fun i => !cov l i) k = ck at *
          cases b with
          | true =>
            go_wp2_with fail
            go_round
            case rel => exact ⟨k + 1, by omega, by go_num, by rw [HN2.out]; simp, by rw [HN2.out]; simp; omega⟩
            case measure => simp [intOf]; omega
          | false =>
            go_wp2_with fail
            go_round
            case rel => exact ⟨k + 1, by omega, by go_num, by rw [HN2.out]; simp, by rw [HN2.out]; simp; omega⟩
            case measure => simp [intOf]; omega
        · obtain rfl : k = N := by omega
          have hk2 := H4.out
          rw [hk2]
          clear hk2
          go_wp2_with fail
          have g_w5_0_0 : ∀ n : Grew w4.heap.size w4, n.w.cell? ⟨w.heap.size, 0, none⟩ = some (.int .i64 size) := fun n => (n.below.cell (by first | assumption | (simp; done) | (simp; omega))).trans (by first | assumption | (simp; done) | simp [*])
          have g_w5_0_1 : ∀ n : Grew w4.heap.size w4, n.w.cell? ⟨w.heap.size, 1, none⟩ = some (.slice a l.length cap) := fun n => (n.below.cell (by first | assumption | (simp; done) | (simp; omega))).trans (by first | assumption | (simp; done) | simp [*])
          have g_w5_1_0 : ∀ n : Grew w4.heap.size w4, n.w.cell? ⟨w1.heap.size, 0, none⟩ = some (.int .i64 0) := fun n => (n.below.cell (by first | assumption | (simp; done) | (simp; omega))).trans (by first | assumption | (simp; done) | simp [*])
          have g_w5_1_1 : ∀ n : Grew w4.heap.size w4, n.w.cell? ⟨w1.heap.size, 1, none⟩ = some (.slice none 0 0) := fun n => (n.below.cell (by first | assumption | (simp; done) | (simp; omega))).trans (by first | assumption | (simp; done) | simp [*])
          have g_w5_2_0 : ∀ n : Grew w4.heap.size w4, n.w.cell? ⟨w1.heap.size + 1, 0, none⟩ = some (.int .i64 0) := fun n => (n.below.cell (by first | assumption | (simp; done) | (simp; omega))).trans (by first | assumption | (simp; done) | simp [*])
          have g_w5_2_1 : ∀ n : Grew w4.heap.size w4, n.w.cell? ⟨w1.heap.size + 1, 1, none⟩ = some (.slice none 0 0) := fun n => (n.below.cell (by first | assumption | (simp; done) | (simp; omega))).trans (by first | assumption | (simp; done) | simp [*])
          refine wp_region_grew w4.heap.size (by kernel_rfl) (by kernel_rfl) ?_
          repeat (go_big_quiet_step ((first | (go_at_call 28; exact grew_call (Nat.le_refl _) (HS.out _ _)) | (go_at_call 29; exact grew_call (Nat.le_refl _) (HC.out _ (Grew.since _ B_w4 B_w4.size))) | (go_at_call 26; exact grew_call (Nat.le_refl _) (HA.out _ (Grew.since _ B_w4 B_w4.size))))))
          refine wpQuiet_nil ?_
          rintro w5 ⟨n_w5, hn_w5⟩
          have hb_w5 : Below w4.heap.size w4 w5 := by rw [hn_w5]; exact n_w5.below
          clear hn_w5 n_w5
          have B_w5 : Below w.heap.size w w5 := B_w4.trans (hb_w5.mono B_w4.size)
          have z_w5_0 : w.heap.size < w5.heap.size := by have := hb_w5.size; omega
          have c_w5_0_0 : w5.cell? ⟨w.heap.size, 0, none⟩ = some (.int .i64 size) := (hb_w5.cell (by assumption)).trans (by assumption)
          have c_w5_0_1 : w5.cell? ⟨w.heap.size, 1, none⟩ = some (.slice a l.length cap) := (hb_w5.cell (by assumption)).trans (by assumption)
          have z_w5_1 : w1.heap.size < w5.heap.size := by have := hb_w5.size; omega
          have c_w5_1_0 : w5.cell? ⟨w1.heap.size, 0, none⟩ = some (.int .i64 0) := (hb_w5.cell (by assumption)).trans (by assumption)
          have c_w5_1_1 : w5.cell? ⟨w1.heap.size, 1, none⟩ = some (.slice none 0 0) := (hb_w5.cell (by assumption)).trans (by assumption)
          have z_w5_2 : w1.heap.size + 1 < w5.heap.size := by have := hb_w5.size; omega
          have c_w5_2_0 : w5.cell? ⟨w1.heap.size + 1, 0, none⟩ = some (.int .i64 0) := (hb_w5.cell (by assumption)).trans (by assumption)
          have c_w5_2_1 : w5.cell? ⟨w1.heap.size + 1, 1, none⟩ = some (.slice none 0 0) := (hb_w5.cell (by assumption)).trans (by assumption)
          clear g_w5_0_0 g_w5_0_1 g_w5_1_0 g_w5_1_1 g_w5_2_0 g_w5_2_1 c_w4_0_0 c_w4_0_1 c_w4_1_0 c_w4_1_1 c_w4_2_0 c_w4_2_1 z_w4_0 z_w4_1 z_w4_2 B_w4 hb_w5
          go_wp2_with fail
          go_ret
          exact ⟨rfl, B_w5⟩
  · have h3 := HZ.out h0
    rw [h3] at HF
    have hx : (ae == 0) = false := by simpa using h0
    clear h3 HT HK HZ h0 hE
    obtain ⟨h1, h2, rfl, rfl⟩ | ⟨h1, rfl, rfl⟩ | ⟨h1, rfl, rfl⟩ := hcase
    · have hm0 : (0 : Int) < m := by omega
      go_enter Try.func6, Try.ntmps6
      go_wp2_with fail
      refine (HN.out _).mono ?_
      rintro r_w1 w1 ⟨rfl, hb_w1⟩
      have B_w1 : Below w.heap.size w w1 := by first | exact hb_w1 | exact ((Below.refl _ _).alloc (Nat.le_refl _) _).trans (hb_w1.mono (by simp)) | exact (((Below.refl _ _).alloc (Nat.le_refl _) _).alloc (by simp) _).trans (hb_w1.mono (by simp; omega)) | exact Below.trans (by go_grown) (hb_w1.mono (by simp; omega))
      have z_w1_0 : w.heap.size < w1.heap.size := by have := hb_w1.size; first | omega | (simp at this; omega)
      have c_w1_0_0 : w1.cell? ⟨w.heap.size, 0, none⟩ = some (.int .i64 size) := (hb_w1.cell (by first | assumption | (simp; done) | (simp; omega))).trans (by first | assumption | (simp; done) | (simp [*]; done) | ((repeat rw [World.cell?_alloc_lt _ _ _ (by first | (simp; done) | (simp; omega) | omega)]); first | assumption | (simp; done)))
      have c_w1_0_1 : w1.cell? ⟨w.heap.size, 1, none⟩ = some (.slice a l.length cap) := (hb_w1.cell (by first | assumption | (simp; done) | (simp; omega))).trans (by first | assumption | (simp; done) | (simp [*]; done) | ((repeat rw [World.cell?_alloc_lt _ _ _ (by first | (simp; done) | (simp; omega) | omega)]); first | assumption | (simp; done)))
      clear hb_w1
      go_wp2_with fail
      refine (HF.out _ (by first | exact B_w1 | (have := B_w1.size; go_grown))).mono ?_
      rintro r_w2 w2 ⟨rfl, hb_w2⟩
      have B_w2 : Below w.heap.size w w2 := by first | exact B_w1.trans (hb_w2.mono B_w1.size) | exact (B_w1.alloc B_w1.size _).trans (hb_w2.mono (by have := B_w1.size; simp; omega)) | exact ((B_w1.alloc B_w1.size _).alloc (by have := B_w1.size; simp; omega) _).trans (hb_w2.mono (by have := B_w1.size; simp; omega)) | (have := B_w1.size; exact Below.trans (by go_grown) (hb_w2.mono (by simp; omega)))
      have z_w2_0 : w.heap.size < w2.heap.size := by have := hb_w2.size; first | omega | (simp at this; omega)
      have c_w2_0_0 : w2.cell? ⟨w.heap.size, 0, none⟩ = some (.int .i64 size) := (hb_w2.cell (by first | assumption | (simp; done) | (simp; omega))).trans (by first | assumption | (simp; done) | (simp [*]; done) | ((repeat rw [World.cell?_alloc_lt _ _ _ (by first | (simp; done) | (simp; omega) | omega)]); first | assumption | (simp; done)))
      have c_w2_0_1 : w2.cell? ⟨w.heap.size, 1, none⟩ = some (.slice a l.length cap) := (hb_w2.cell (by first | assumption | (simp; done) | (simp; omega))).trans (by first | assumption | (simp; done) | (simp [*]; done) | ((repeat rw [World.cell?_alloc_lt _ _ _ (by first | (simp; done) | (simp; omega) | omega)]); first | assumption | (simp; done)))
      have z_w2_1 : w1.heap.size < w2.heap.size := by have := hb_w2.size; first | omega | (simp at this; omega)
      have c_w2_1_0 : w2.cell? ⟨w1.heap.size, 0, none⟩ = some (.int .i64 m) := (hb_w2.cell (by first | assumption | (simp; done) | (simp; omega))).trans (by first | assumption | (simp; done) | (simp [*]; done) | ((repeat rw [World.cell?_alloc_lt _ _ _ (by first | (simp; done) | (simp; omega) | omega)]); first | assumption | (simp; done)))
      have c_w2_1_1 : w2.cell? ⟨w1.heap.size, 1, none⟩ = some (.slice none 0 0) := (hb_w2.cell (by first | assumption | (simp; done) | (simp; omega))).trans (by first | assumption | (simp; done) | (simp [*]; done) | ((repeat rw [World.cell?_alloc_lt _ _ _ (by first | (simp; done) | (simp; omega) | omega)]); first | assumption | (simp; done)))
      have z_w2_2 : w1.heap.size + 1 < w2.heap.size := by have := hb_w2.size; first | omega | (simp at this; omega)
      have c_w2_2_0 : w2.cell? ⟨w1.heap.size + 1, 0, none⟩ = some (.int .i64 m) := (hb_w2.cell (by first | assumption | (simp; done) | (simp; omega))).trans (by first | assumption | (simp; done) | (simp [*]; done) | ((repeat rw [World.cell?_alloc_lt _ _ _ (by first | (simp; done) | (simp; omega) | omega)]); first | assumption | (simp; done)))
      have c_w2_2_1 : w2.cell? ⟨w1.heap.size + 1, 1, none⟩ = some (.slice none 0 0) := (hb_w2.cell (by first | assumption | (simp; done) | (simp; omega))).trans (by first | assumption | (simp; done) | (simp [*]; done) | ((repeat rw [World.cell?_alloc_lt _ _ _ (by first | (simp; done) | (simp; omega) | omega)]); first | assumption | (simp; done)))
      clear c_w1_0_0 c_w1_0_1 z_w1_0 B_w1 hb_w2
      go_wp2_with fail
      refine (HA.out _ (by first | exact B_w2 | (have := B_w2.size; go_grown))).mono ?_
      rintro r_w3 w3 ⟨rfl, hb_w3⟩
      have B_w3 : Below w.heap.size w w3 := by first | exact B_w2.trans (hb_w3.mono B_w2.size) | exact (B_w2.alloc B_w2.size _).trans (hb_w3.mono (by have := B_w2.size; simp; omega)) | exact ((B_w2.alloc B_w2.size _).alloc (by have := B_w2.size; simp; omega) _).trans (hb_w3.mono (by have := B_w2.size; simp; omega)) | (have := B_w2.size; exact Below.trans (by go_grown) (hb_w3.mono (by simp; omega)))
      have z_w3_0 : w.heap.size < w3.heap.size := by have := hb_w3.size; first | omega | (simp at this; omega)
      have c_w3_0_0 : w3.cell? ⟨w.heap.size, 0, none⟩ = some (.int .i64 size) := (hb_w3.cell (by first | assumption | (simp; done) | (simp; omega))).trans (by first | assumption | (simp; done) | (simp [*]; done) | ((repeat rw [World.cell?_alloc_lt _ _ _ (by first | (simp; done) | (simp; omega) | omega)]); first | assumption | (simp; done)))
      have c_w3_0_1 : w3.cell? ⟨w.heap.size, 1, none⟩ = some (.slice a l.length cap) := (hb_w3.cell (by first | assumption | (simp; done) | (simp; omega))).trans (by first | assumption | (simp; done) | (simp [*]; done) | ((repeat rw [World.cell?_alloc_lt _ _ _ (by first | (simp; done) | (simp; omega) | omega)]); first | assumption | (simp; done)))
      have z_w3_1 : w1.heap.size < w3.heap.size := by have := hb_w3.size; first | omega | (simp at this; omega)
      have c_w3_1_0 : w3.cell? ⟨w1.heap.size, 0, none⟩ = some (.int .i64 m) := (hb_w3.cell (by first | assumption | (simp; done) | (simp; omega))).trans (by first | assumption | (simp; done) | (simp [*]; done) | ((repeat rw [World.cell?_alloc_lt _ _ _ (by first | (simp; done) | (simp; omega) | omega)]); first | assumption | (simp; done)))
      have c_w3_1_1 : w3.cell? ⟨w1.heap.size, 1, none⟩ = some (.slice none 0 0) := (hb_w3.cell (by first | assumption | (simp; done) | (simp; omega))).trans (by first | assumption | (simp; done) | (simp [*]; done) | ((repeat rw [World.cell?_alloc_lt _ _ _ (by first | (simp; done) | (simp; omega) | omega)]); first | assumption | (simp; done)))
      have z_w3_2 : w1.heap.size + 1 < w3.heap.size := by have := hb_w3.size; first | omega | (simp at this; omega)
      have c_w3_2_0 : w3.cell? ⟨w1.heap.size + 1, 0, none⟩ = some (.int .i64 m) := (hb_w3.cell (by first | assumption | (simp; done) | (simp; omega))).trans (by first | assumption | (simp; done) | (simp [*]; done) | ((repeat rw [World.cell?_alloc_lt _ _ _ (by first | (simp; done) | (simp; omega) | omega)]); first | assumption | (simp; done)))
      have c_w3_2_1 : w3.cell? ⟨w1.heap.size + 1, 1, none⟩ = some (.slice none 0 0) := (hb_w3.cell (by first | assumption | (simp; done) | (simp; omega))).trans (by first | assumption | (simp; done) | (simp [*]; done) | ((repeat rw [World.cell?_alloc_lt _ _ _ (by first | (simp; done) | (simp; omega) | omega)]); first | assumption | (simp; done)))
      clear c_w2_0_0 c_w2_0_1 c_w2_1_0 c_w2_1_1 c_w2_2_0 c_w2_2_1 z_w2_0 z_w2_1 z_w2_2 B_w2 hb_w3
      go_wp2_with fail
      have g_w5_0_0 : ∀ n : Grew w3.heap.size w3, n.w.cell? ⟨w.heap.size, 0, none⟩ = some (.int .i64 size) := fun n => (n.below.cell (by first | assumption | (simp; done) | (simp; omega))).trans (by first | assumption | (simp; done) | simp [*])
      have g_w5_0_1 : ∀ n : Grew w3.heap.size w3, n.w.cell? ⟨w.heap.size, 1, none⟩ = some (.slice a l.length cap) := fun n => (n.below.cell (by first | assumption | (simp; done) | (simp; omega))).trans (by first | assumption | (simp; done) | simp [*])
      have g_w5_1_0 : ∀ n : Grew w3.heap.size w3, n.w.cell? ⟨w1.heap.size, 0, none⟩ = some (.int .i64 m) := fun n => (n.below.cell (by first | assumption | (simp; done) | (simp; omega))).trans (by first | assumption | (simp; done) | simp [*])
      have g_w5_1_1 : ∀ n : Grew w3.heap.size w3, n.w.cell? ⟨w1.heap.size, 1, none⟩ = some (.slice none 0 0) := fun n => (n.below.cell (by first | assumption | (simp; done) | (simp; omega))).trans (by first | assumption | (simp; done) | simp [*])
      have g_w5_2_0 : ∀ n : Grew w3.heap.size w3, n.w.cell? ⟨w1.heap.size + 1, 0, none⟩ = some (.int .i64 m) := fun n => (n.below.cell (by first | assumption | (simp; done) | (simp; omega))).trans (by first | assumption | (simp; done) | simp [*])
      have g_w5_2_1 : ∀ n : Grew w3.heap.size w3, n.w.cell? ⟨w1.heap.size + 1, 1, none⟩ = some (.slice none 0 0) := fun n => (n.below.cell (by first | assumption | (simp; done) | (simp; omega))).trans (by first | assumption | (simp; done) | simp [*])
      refine wp_region_grew w3.heap.size (by kernel_rfl) (by kernel_rfl) ?_
      repeat (go_big_quiet_step ((first | (go_at_call 28; exact grew_call (Nat.le_refl _) (HS.out _ _)) | (go_at_call 29; exact grew_call (Nat.le_refl _) (HC.out _ (Grew.since _ B_w3 B_w3.size))) | (go_at_call 26; exact grew_call (Nat.le_refl _) (HA.out _ (Grew.since _ B_w3 B_w3.size))))))
      refine wpQuiet_nil ?_
      rintro w5 ⟨n_w5, hn_w5⟩
      have hb_w5 : Below w3.heap.size w3 w5 := by rw [hn_w5]; exact n_w5.below
      clear hn_w5 n_w5
      have B_w5 : Below w.heap.size w w5 := B_w3.trans (hb_w5.mono B_w3.size)
      have z_w5_0 : w.heap.size < w5.heap.size := by have := hb_w5.size; omega
      have c_w5_0_0 : w5.cell? ⟨w.heap.size, 0, none⟩ = some (.int .i64 size) := (hb_w5.cell (by assumption)).trans (by assumption)
      have c_w5_0_1 : w5.cell? ⟨w.heap.size, 1, none⟩ = some (.slice a l.length cap) := (hb_w5.cell (by assumption)).trans (by assumption)
      have z_w5_1 : w1.heap.size < w5.heap.size := by have := hb_w5.size; omega
      have c_w5_1_0 : w5.cell? ⟨w1.heap.size, 0, none⟩ = some (.int .i64 m) := (hb_w5.cell (by assumption)).trans (by assumption)
      have c_w5_1_1 : w5.cell? ⟨w1.heap.size, 1, none⟩ = some (.slice none 0 0) := (hb_w5.cell (by assumption)).trans (by assumption)
      have z_w5_2 : w1.heap.size + 1 < w5.heap.size := by have := hb_w5.size; omega
      have c_w5_2_0 : w5.cell? ⟨w1.heap.size + 1, 0, none⟩ = some (.int .i64 m) := (hb_w5.cell (by assumption)).trans (by assumption)
      have c_w5_2_1 : w5.cell? ⟨w1.heap.size + 1, 1, none⟩ = some (.slice none 0 0) := (hb_w5.cell (by assumption)).trans (by assumption)
      clear g_w5_0_0 g_w5_0_1 g_w5_1_0 g_w5_1_1 g_w5_2_0 g_w5_2_1 c_w3_0_0 c_w3_0_1 c_w3_1_0 c_w3_1_1 c_w3_2_0 c_w3_2_1 z_w3_0 z_w3_1 z_w3_2 B_w3 hb_w5
      go_wp2_with fail
      go_ret
      exact ⟨rfl, B_w5⟩
    all_goals
      go_enter Try.func6, Try.ntmps6
      go_wp2_with fail
      refine (HN.out _).mono ?_
      rintro r_w1 w1 ⟨rfl, hb_w1⟩
      have B_w1 : Below w.heap.size w w1 := by first | exact hb_w1 | exact ((Below.refl _ _).alloc (Nat.le_refl _) _).trans (hb_w1.mono (by simp)) | exact (((Below.refl _ _).alloc (Nat.le_refl _) _).alloc (by simp) _).trans (hb_w1.mono (by simp; omega)) | exact Below.trans (by go_grown) (hb_w1.mono (by simp; omega))
      have z_w1_0 : w.heap.size < w1.heap.size := by have := hb_w1.size; first | omega | (simp at this; omega)
      have c_w1_0_0 : w1.cell? ⟨w.heap.size, 0, none⟩ = some (.int .i64 size) := (hb_w1.cell (by first | assumption | (simp; done) | (simp; omega))).trans (by first | assumption | (simp; done) | (simp [*]; done) | ((repeat rw [World.cell?_alloc_lt _ _ _ (by first | (simp; done) | (simp; omega) | omega)]); first | assumption | (simp; done)))
      have c_w1_0_1 : w1.cell? ⟨w.heap.size, 1, none⟩ = some (.slice a l.length cap) := (hb_w1.cell (by first | assumption | (simp; done) | (simp; omega))).trans (by first | assumption | (simp; done) | (simp [*]; done) | ((repeat rw [World.cell?_alloc_lt _ _ _ (by first | (simp; done) | (simp; omega) | omega)]); first | assumption | (simp; done)))
      clear hb_w1
      go_wp2_with fail
      refine (HF.out _ (by first | exact B_w1 | (have := B_w1.size; go_grown))).mono ?_
      rintro r_w2 w2 ⟨rfl, hb_w2⟩
      have B_w2 : Below w.heap.size w w2 := by first | exact B_w1.trans (hb_w2.mono B_w1.size) | exact (B_w1.alloc B_w1.size _).trans (hb_w2.mono (by have := B_w1.size; simp; omega)) | exact ((B_w1.alloc B_w1.size _).alloc (by have := B_w1.size; simp; omega) _).trans (hb_w2.mono (by have := B_w1.size; simp; omega)) | (have := B_w1.size; exact Below.trans (by go_grown) (hb_w2.mono (by simp; omega)))
      have z_w2_0 : w.heap.size < w2.heap.size := by have := hb_w2.size; first | omega | (simp at this; omega)
      have c_w2_0_0 : w2.cell? ⟨w.heap.size, 0, none⟩ = some (.int .i64 size) := (hb_w2.cell (by first | assumption | (simp; done) | (simp; omega))).trans (by first | assumption | (simp; done) | (simp [*]; done) | ((repeat rw [World.cell?_alloc_lt _ _ _ (by first | (simp; done) | (simp; omega) | omega)]); first | assumption | (simp; done)))
      have c_w2_0_1 : w2.cell? ⟨w.heap.size, 1, none⟩ = some (.slice a l.length cap) := (hb_w2.cell (by first | assumption | (simp; done) | (simp; omega))).trans (by first | assumption | (simp; done) | (simp [*]; done) | ((repeat rw [World.cell?_alloc_lt _ _ _ (by first | (simp; done) | (simp; omega) | omega)]); first | assumption | (simp; done)))
      have z_w2_1 : w1.heap.size < w2.heap.size := by have := hb_w2.size; first | omega | (simp at this; omega)
      have c_w2_1_0 : w2.cell? ⟨w1.heap.size, 0, none⟩ = some (.int .i64 0) := (hb_w2.cell (by first | assumption | (simp; done) | (simp; omega))).trans (by first | assumption | (simp; done) | (simp [*]; done) | ((repeat rw [World.cell?_alloc_lt _ _ _ (by first | (simp; done) | (simp; omega) | omega)]); first | assumption | (simp; done)))
      have c_w2_1_1 : w2.cell? ⟨w1.heap.size, 1, none⟩ = some (.slice none 0 0) := (hb_w2.cell (by first | assumption | (simp; done) | (simp; omega))).trans (by first | assumption | (simp; done) | (simp [*]; done) | ((repeat rw [World.cell?_alloc_lt _ _ _ (by first | (simp; done) | (simp; omega) | omega)]); first | assumption | (simp; done)))
      have z_w2_2 : w1.heap.size + 1 < w2.heap.size := by have := hb_w2.size; first | omega | (simp at this; omega)
      have c_w2_2_0 : w2.cell? ⟨w1.heap.size + 1, 0, none⟩ = some (.int .i64 0) := (hb_w2.cell (by first | assumption | (simp; done) | (simp; omega))).trans (by first | assumption | (simp; done) | (simp [*]; done) | ((repeat rw [World.cell?_alloc_lt _ _ _ (by first | (simp; done) | (simp; omega) | omega)]); first | assumption | (simp; done)))
      have c_w2_2_1 : w2.cell? ⟨w1.heap.size + 1, 1, none⟩ = some (.slice none 0 0) := (hb_w2.cell (by first | assumption | (simp; done) | (simp; omega))).trans (by first | assumption | (simp; done) | (simp [*]; done) | ((repeat rw [World.cell?_alloc_lt _ _ _ (by first | (simp; done) | (simp; omega) | omega)]); first | assumption | (simp; done)))
      clear c_w1_0_0 c_w1_0_1 z_w1_0 B_w1 hb_w2
      go_wp2_with fail
      refine (HA.out _ (by first | exact B_w2 | (have := B_w2.size; go_grown))).mono ?_
      rintro r_w3 w3 ⟨rfl, hb_w3⟩
      have B_w3 : Below w.heap.size w w3 := by first | exact B_w2.trans (hb_w3.mono B_w2.size) | exact (B_w2.alloc B_w2.size _).trans (hb_w3.mono (by have := B_w2.size; simp; omega)) | exact ((B_w2.alloc B_w2.size _).alloc (by have := B_w2.size; simp; omega) _).trans (hb_w3.mono (by have := B_w2.size; simp; omega)) | (have := B_w2.size; exact Below.trans (by go_grown) (hb_w3.mono (by simp; omega)))
      have z_w3_0 : w.heap.size < w3.heap.size := by have := hb_w3.size; first | omega | (simp at this; omega)
      have c_w3_0_0 : w3.cell? ⟨w.heap.size, 0, none⟩ = some (.int .i64 size) := (hb_w3.cell (by first | assumption | (simp; done) | (simp; omega))).trans (by first | assumption | (simp; done) | (simp [*]; done) | ((repeat rw [World.cell?_alloc_lt _ _ _ (by first | (simp; done) | (simp; omega) | omega)]); first | assumption | (simp; done)))
      have c_w3_0_1 : w3.cell? ⟨w.heap.size, 1, none⟩ = some (.slice a l.length cap) := (hb_w3.cell (by first | assumption | (simp; done) | (simp; omega))).trans (by first | assumption | (simp; done) | (simp [*]; done) | ((repeat rw [World.cell?_alloc_lt _ _ _ (by first | (simp; done) | (simp; omega) | omega)]); first | assumption | (simp; done)))
      have z_w3_1 : w1.heap.size < w3.heap.size := by have := hb_w3.size; first | omega | (simp at this; omega)
      have c_w3_1_0 : w3.cell? ⟨w1.heap.size, 0, none⟩ = some (.int .i64 0) := (hb_w3.cell (by first | assumption | (simp; done) | (simp; omega))).trans (by first | assumption | (simp; done) | (simp [*]; done) | ((repeat rw [World.cell?_alloc_lt _ _ _ (by first | (simp; done) | (simp; omega) | omega)]); first | assumption | (simp; done)))
      have c_w3_1_1 : w3.cell? ⟨w1.heap.size, 1, none⟩ = some (.slice none 0 0) := (hb_w3.cell (by first | assumption | (simp; done) | (simp; omega))).trans (by first | assumption | (simp; done) | (simp [*]; done) | ((repeat rw [World.cell?_alloc_lt _ _ _ (by first | (simp; done) | (simp; omega) | omega)]); first | assumption | (simp; done)))
      have z_w3_2 : w1.heap.size + 1 < w3.heap.size := by have := hb_w3.size; first | omega | (simp at this; omega)
      have c_w3_2_0 : w3.cell? ⟨w1.heap.size + 1, 0, none⟩ = some (.int .i64 0) := (hb_w3.cell (by first | assumption | (simp; done) | (simp; omega))).trans (by first | assumption | (simp; done) | (simp [*]; done) | ((repeat rw [World.cell?_alloc_lt _ _ _ (by first | (simp; done) | (simp; omega) | omega)]); first | assumption | (simp; done)))
      have c_w3_2_1 : w3.cell? ⟨w1.heap.size + 1, 1, none⟩ = some (.slice none 0 0) := (hb_w3.cell (by first | assumption | (simp; done) | (simp; omega))).trans (by first | assumption | (simp; done) | (simp [*]; done) | ((repeat rw [World.cell?_alloc_lt _ _ _ (by first | (simp; done) | (simp; omega) | omega)]); first | assumption | (simp; done)))
      clear c_w2_0_0 c_w2_0_1 c_w2_1_0 c_w2_1_1 c_w2_2_0 c_w2_2_1 z_w2_0 z_w2_1 z_w2_2 B_w2 hb_w3
      go_wp2_with fail
      have g_w5_0_0 : ∀ n : Grew w3.heap.size w3, n.w.cell? ⟨w.heap.size, 0, none⟩ = some (.int .i64 size) := fun n => (n.below.cell (by first | assumption | (simp; done) | (simp; omega))).trans (by first | assumption | (simp; done) | simp [*])
      have g_w5_0_1 : ∀ n : Grew w3.heap.size w3, n.w.cell? ⟨w.heap.size, 1, none⟩ = some (.slice a l.length cap) := fun n => (n.below.cell (by first | assumption | (simp; done) | (simp; omega))).trans (by first | assumption | (simp; done) | simp [*])
      have g_w5_1_0 : ∀ n : Grew w3.heap.size w3, n.w.cell? ⟨w1.heap.size, 0, none⟩ = some (.int .i64 0) := fun n => (n.below.cell (by first | assumption | (simp; done) | (simp; omega))).trans (by first | assumption | (simp; done) | simp [*])
      have g_w5_1_1 : ∀ n : Grew w3.heap.size w3, n.w.cell? ⟨w1.heap.size, 1, none⟩ = some (.slice none 0 0) := fun n => (n.below.cell (by first | assumption | (simp; done) | (simp; omega))).trans (by first | assumption | (simp; done) | simp [*])
      have g_w5_2_0 : ∀ n : Grew w3.heap.size w3, n.w.cell? ⟨w1.heap.size + 1, 0, none⟩ = some (.int .i64 0) := fun n => (n.below.cell (by first | assumption | (simp; done) | (simp; omega))).trans (by first | assumption | (simp; done) | simp [*])
      have g_w5_2_1 : ∀ n : Grew w3.heap.size w3, n.w.cell? ⟨w1.heap.size + 1, 1, none⟩ = some (.slice none 0 0) := fun n => (n.below.cell (by first | assumption | (simp; done) | (simp; omega))).trans (by first | assumption | (simp; done) | simp [*])
      refine wp_region_grew w3.heap.size (by kernel_rfl) (by kernel_rfl) ?_
      repeat (go_big_quiet_step ((first | (go_at_call 28; exact grew_call (Nat.le_refl _) (HS.out _ _)) | (go_at_call 29; exact grew_call (Nat.le_refl _) (HC.out _ (Grew.since _ B_w3 B_w3.size))) | (go_at_call 26; exact grew_call (Nat.le_refl _) (HA.out _ (Grew.since _ B_w3 B_w3.size))))))
      refine wpQuiet_nil ?_
      rintro w5 ⟨n_w5, hn_w5⟩
      have hb_w5 : Below w3.heap.size w3 w5 := by rw [hn_w5]; exact n_w5.below
      clear hn_w5 n_w5
      have B_w5 : Below w.heap.size w w5 := B_w3.trans (hb_w5.mono B_w3.size)
      have z_w5_0 : w.heap.size < w5.heap.size := by have := hb_w5.size; omega
      have c_w5_0_0 : w5.cell? ⟨w.heap.size, 0, none⟩ = some (.int .i64 size) := (hb_w5.cell (by assumption)).trans (by assumption)
      have c_w5_0_1 : w5.cell? ⟨w.heap.size, 1, none⟩ = some (.slice a l.length cap) := (hb_w5.cell (by assumption)).trans (by assumption)
      have z_w5_1 : w1.heap.size < w5.heap.size := by have := hb_w5.size; omega
      have c_w5_1_0 : w5.cell? ⟨w1.heap.size, 0, none⟩ = some (.int .i64 0) := (hb_w5.cell (by assumption)).trans (by assumption)
      have c_w5_1_1 : w5.cell? ⟨w1.heap.size, 1, none⟩ = some (.slice none 0 0) := (hb_w5.cell (by assumption)).trans (by assumption)
      have z_w5_2 : w1.heap.size + 1 < w5.heap.size := by have := hb_w5.size; omega
      have c_w5_2_0 : w5.cell? ⟨w1.heap.size + 1, 0, none⟩ = some (.int .i64 0) := (hb_w5.cell (by assumption)).trans (by assumption)
      have c_w5_2_1 : w5.cell? ⟨w1.heap.size + 1, 1, none⟩ = some (.slice none 0 0) := (hb_w5.cell (by assumption)).trans (by assumption)
      clear g_w5_0_0 g_w5_0_1 g_w5_1_0 g_w5_1_1 g_w5_2_0 g_w5_2_1 c_w3_0_0 c_w3_0_1 c_w3_1_0 c_w3_1_1 c_w3_2_0 c_w3_2_1 z_w3_0 z_w3_1 z_w3_2 B_w3 hb_w5
      go_wp2_with fail
      go_ret
      exact ⟨rfl, B_w5⟩
end Go.Proofs.Ytkhfbleldchnpaa
