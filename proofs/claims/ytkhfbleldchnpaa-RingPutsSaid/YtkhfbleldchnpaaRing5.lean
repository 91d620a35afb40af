/- Contract: RingPut (plugref). -/
import Derived.Test.YtkhfbleldchnpaaRing4
namespace Go.Proofs.Ytkhfbleldchnpaa
open Go.RowKit
set_option linter.unusedVariables false
set_option linter.unusedSimpArgs false
set_option maxRecDepth 100000

theorem loopP_get (n : Nat) : ∀ (l : List RC) (k0 : Nat), loopP n k0 l = true → ∀ (k : Nat) (h : k < l.length), linkOk n (k0 + k) l[k] = true
  | [], _, _, k, h => absurd h (Nat.not_lt_zero _)
  | c :: t, k0, hl, k, h => by
    rw [loopP_cons, Bool.and_eq_true] at hl
    cases k with
    | zero => exact hl.1
    | succ k =>
      have := loopP_get n t (k0 + 1) hl.2 k (by simpa using h)
      rwa [show k0 + 1 + k = k0 + (k + 1) by omega] at this
theorem putL_length (l : List RC) (pa : Nat) (pb word : Int) : (putL l pa pb word).length = l.length := by unfold putL; split <;> simp
/-- a put, cell by cell -/
theorem putL_get (l : List RC) (pa : Nat) (pb word : Int) (hpa : pa + 1 < l.length) (hok : loopP l.length 0 l = true) (k : Nat) (p : RC) (hp : l[k]? = some p) :
    ∃ q, rcells ((putL l pa pb word).take (k + 1)) = rcells ((putL l pa pb word).take k) ++ rcells [q] ∧ (k = pa → q = (word, pb, false)) ∧ (k ≠ pa → k + 1 = l.length → pa + 2 = l.length → q = (p.1, pb, p.2.2)) ∧ (k ≠ pa → ¬ (k + 1 = l.length ∧ pa + 2 = l.length) → q = p) := by
  have hlk := loopP_get l.length l 0 hok pa (by omega)
  have hk : k < l.length := (List.getElem?_eq_some_iff.1 hp).1
  have hz : (l.getD pa (0, 0, false)).2.2 = false := by
    rw [List.getD_eq_getElem?_getD, List.getElem?_eq_getElem (by omega)]
    simp only [linkOk, Bool.and_eq_true, beq_iff_eq, Nat.zero_add] at hlk
    rw [Option.getD_some, hlk.1]
    simp
    omega
  have hlen : (putL l pa pb word).length = l.length := by unfold putL; split <;> simp
  have main : ∀ q, (putL l pa pb word)[k]? = some q → rcells ((putL l pa pb word).take (k + 1)) = rcells ((putL l pa pb word).take k) ++ rcells [q] := by
    intro q hq
    rw [List.take_add_one, hq]
    simp only [rcells, Option.toList_some, List.flatMap_append]
  by_cases h1 : k = pa
  · subst h1
    refine ⟨(word, pb, false), main _ ?_, fun _ => rfl, fun h => absurd rfl h, fun h => absurd rfl h⟩
    simp only [putL, hz]
    split
    · rw [List.getElem?_set_ne (by omega), List.getElem?_set_self (by omega)]
    · rw [List.getElem?_set_self (by omega)]
  · by_cases h2 : k + 1 = l.length ∧ pa + 2 = l.length
    · have h4 : l.length - 1 = k := by omega
      have e1 : l.getD k (0, 0, false) = p := by rw [List.getD_eq_getElem?_getD, hp]; rfl
      refine ⟨(p.1, pb, p.2.2), main _ ?_, fun h => absurd h h1, fun _ _ _ => rfl, fun _ h => absurd h2 h⟩
      simp only [putL, if_pos h2.2, h4, e1]
      rw [List.getElem?_set_self (by simp; omega)]
    · refine ⟨p, main _ ?_, fun h => absurd h h1, fun _ h h' => absurd ⟨h, h'⟩ h2, fun _ _ => rfl⟩
      unfold putL
      split
      · rw [List.getElem?_set_ne (by omega), List.getElem?_set_ne (by omega), hp]
      · rw [List.getElem?_set_ne (by omega), hp]
set_option maxHeartbeats 1000000 in
theorem putR_bad (pa pb ga gb se word : Int) (a : Option Addr) (cap : Nat) (l : List RC) (w : World) (hr : Reads w 3 (.slice a l.length cap) l.length (rcells l)) (hE : ringErr l pa pb ga gb se ≠ 0) :
    Calls Try.prog 35 #[.agg #[.slice a l.length cap, .int .i64 pa, .int .i64 pb, .int .i64 ga, .int .i64 gb, .int .i64 se], .int .u64 word] w fun e w' => e = .returned (.tuple #[zRing, .int .i64 (ringErr l pa pb ga gb se)]) ∧ Below w.heap.size w w' := by
  have HC : Hid (∀ w' : World, Below w.heap.size w w' → Calls Try.prog 37 #[.agg #[.slice a l.length cap, .int .i64 pa, .int .i64 pb, .int .i64 ga, .int .i64 gb, .int .i64 se]] w' fun r w'' => r = .returned (.int .i64 (ringErr l pa pb ga gb se)) ∧ Below w'.heap.size w' w'') := fun w' hb => ringR_any pa pb ga gb se a cap l w' (hr.below hb (Nat.le_refl _))
  generalize ringErr l pa pb ga gb se = e at *
  have he : (e != 0) = true := by simpa using hE
  go_enter Try.func35, Try.ntmps35
  go_wp2_with fail
  refine (HC.out _ (by go_grown)).mono ?_
  rintro r_w1 w1 ⟨rfl, hb_w1⟩
  have B_w1 : Below w.heap.size w w1 := by first | exact hb_w1 | exact ((Below.refl _ _).alloc (Nat.le_refl _) _).trans (hb_w1.mono (by simp)) | exact (((Below.refl _ _).alloc (Nat.le_refl _) _).alloc (by simp) _).trans (hb_w1.mono (by simp; omega)) | exact Below.trans (by go_grown) (hb_w1.mono (by simp; omega))
  have z_w1_0 : w.heap.size + 1 < w1.heap.size := by have := hb_w1.size; first | omega | (simp at this; omega)
  have c_w1_0_0 : w1.cell? ⟨w.heap.size + 1, 0, none⟩ = some (.slice none 0 0) := (hb_w1.cell (by first | assumption | (simp; done) | (simp; omega))).trans (by first | assumption | (simp; done) | (simp [go_sem]; done) | (simp [*]; done) | ((repeat rw [World.cell?_alloc_lt _ _ _ (by first | (simp; done) | (simp; omega) | omega)]); first | assumption | (simp; done)))
  have f_w1_0_0 : w1.frozen? ⟨w.heap.size + 1, 0, none⟩ = false := (hb_w1.frozen (by first | assumption | (simp; done) | (simp; omega))).trans (by first | assumption | (simp; done) | (simp [go_sem]; done) | ((repeat rw [frozen?_alloc_cells]); first | assumption | (simp; done)) | (simp [*]; done))
  have c_w1_0_1 : w1.cell? ⟨w.heap.size + 1, 1, none⟩ = some (.int .i64 0) := (hb_w1.cell (by first | assumption | (simp; done) | (simp; omega))).trans (by first | assumption | (simp; done) | (simp [go_sem]; done) | (simp [*]; done) | ((repeat rw [World.cell?_alloc_lt _ _ _ (by first | (simp; done) | (simp; omega) | omega)]); first | assumption | (simp; done)))
  have f_w1_0_1 : w1.frozen? ⟨w.heap.size + 1, 1, none⟩ = false := (hb_w1.frozen (by first | assumption | (simp; done) | (simp; omega))).trans (by first | assumption | (simp; done) | (simp [go_sem]; done) | ((repeat rw [frozen?_alloc_cells]); first | assumption | (simp; done)) | (simp [*]; done))
  have c_w1_0_2 : w1.cell? ⟨w.heap.size + 1, 2, none⟩ = some (.int .i64 0) := (hb_w1.cell (by first | assumption | (simp; done) | (simp; omega))).trans (by first | assumption | (simp; done) | (simp [go_sem]; done) | (simp [*]; done) | ((repeat rw [World.cell?_alloc_lt _ _ _ (by first | (simp; done) | (simp; omega) | omega)]); first | assumption | (simp; done)))
  have f_w1_0_2 : w1.frozen? ⟨w.heap.size + 1, 2, none⟩ = false := (hb_w1.frozen (by first | assumption | (simp; done) | (simp; omega))).trans (by first | assumption | (simp; done) | (simp [go_sem]; done) | ((repeat rw [frozen?_alloc_cells]); first | assumption | (simp; done)) | (simp [*]; done))
  have c_w1_0_3 : w1.cell? ⟨w.heap.size + 1, 3, none⟩ = some (.int .i64 0) := (hb_w1.cell (by first | assumption | (simp; done) | (simp; omega))).trans (by first | assumption | (simp; done) | (simp [go_sem]; done) | (simp [*]; done) | ((repeat rw [World.cell?_alloc_lt _ _ _ (by first | (simp; done) | (simp; omega) | omega)]); first | assumption | (simp; done)))
  have f_w1_0_3 : w1.frozen? ⟨w.heap.size + 1, 3, none⟩ = false := (hb_w1.frozen (by first | assumption | (simp; done) | (simp; omega))).trans (by first | assumption | (simp; done) | (simp [go_sem]; done) | ((repeat rw [frozen?_alloc_cells]); first | assumption | (simp; done)) | (simp [*]; done))
  have c_w1_0_4 : w1.cell? ⟨w.heap.size + 1, 4, none⟩ = some (.int .i64 0) := (hb_w1.cell (by first | assumption | (simp; done) | (simp; omega))).trans (by first | assumption | (simp; done) | (simp [go_sem]; done) | (simp [*]; done) | ((repeat rw [World.cell?_alloc_lt _ _ _ (by first | (simp; done) | (simp; omega) | omega)]); first | assumption | (simp; done)))
  have f_w1_0_4 : w1.frozen? ⟨w.heap.size + 1, 4, none⟩ = false := (hb_w1.frozen (by first | assumption | (simp; done) | (simp; omega))).trans (by first | assumption | (simp; done) | (simp [go_sem]; done) | ((repeat rw [frozen?_alloc_cells]); first | assumption | (simp; done)) | (simp [*]; done))
  have c_w1_0_5 : w1.cell? ⟨w.heap.size + 1, 5, none⟩ = some (.int .i64 0) := (hb_w1.cell (by first | assumption | (simp; done) | (simp; omega))).trans (by first | assumption | (simp; done) | (simp [go_sem]; done) | (simp [*]; done) | ((repeat rw [World.cell?_alloc_lt _ _ _ (by first | (simp; done) | (simp; omega) | omega)]); first | assumption | (simp; done)))
  have f_w1_0_5 : w1.frozen? ⟨w.heap.size + 1, 5, none⟩ = false := (hb_w1.frozen (by first | assumption | (simp; done) | (simp; omega))).trans (by first | assumption | (simp; done) | (simp [go_sem]; done) | ((repeat rw [frozen?_alloc_cells]); first | assumption | (simp; done)) | (simp [*]; done))
  clear hb_w1
  go_wp2_with fail
  refine bodyPost_ret (v := .tuple #[zRing, .int .i64 e]) (by simp [results, Try.results35, go_sem, zRing, z_w1_0, c_w1_0_0, c_w1_0_1, c_w1_0_2, c_w1_0_3, c_w1_0_4, c_w1_0_5]) rfl ⟨rfl, ?_⟩
  have hz := B_w1.size
  go_grown
set_option maxHeartbeats 2000000 in
theorem putR_full (pa pb ga gb se word : Int) (ad : Addr) (cap : Nat) (l : List RC) (w : World) (hr : Reads w 3 (.slice (some ad) l.length cap) l.length (rcells l)) (hE : ringErr l pa pb ga gb se = 0) (hf : advA pa l.length = se) :
    Calls Try.prog 35 #[.agg #[.slice (some ad) l.length cap, .int .i64 pa, .int .i64 pb, .int .i64 ga, .int .i64 gb, .int .i64 se], .int .u64 word] w fun e w' => e = .returned (.tuple #[zRing, .int .i64 11]) ∧ Below w.heap.size w w' := by
  have HC : Hid (∀ w' : World, Below w.heap.size w w' → Calls Try.prog 37 #[.agg #[.slice (some ad) l.length cap, .int .i64 pa, .int .i64 pb, .int .i64 ga, .int .i64 gb, .int .i64 se]] w' fun r w'' => r = .returned (.int .i64 0) ∧ Below w'.heap.size w' w'') := fun w' hb => by
    have h := ringR_any pa pb ga gb se (some ad) cap l w' (hr.below hb (Nat.le_refl _))
    rwa [hE] at h
  obtain ⟨h1, h2, h3, h4, h5, h6, h7, h8⟩ := ringErr_ok hE
  have HA := Lib.hid (goneOn_any pa pb l.length h1 h6 h3)
  generalize advA pa l.length = na at *
  generalize advB pa pb l.length = nb at *
  have hq : (na == se) = true := by simpa using hf
  clear hf
  have hn64 : l.length ≤ 64 := h1.2
  clear h1 h2 h3 h4 h5 h6 h7 h8 hE hr
  generalize l.length = n at *
  suffices key : ∀ Post : Ending → World → Prop, Hid (∀ e w', (e = .returned (.tuple #[zRing, .int .i64 11]) ∧ Below w.heap.size w w') → Post e w') → Calls Try.prog 35 #[.agg #[.slice (some ad) n cap, .int .i64 pa, .int .i64 pb, .int .i64 ga, .int .i64 gb, .int .i64 se], .int .u64 word] w Post from key _ (Lib.hid (fun _ _ h => h))
  intro Post HPost
  go_enter Try.func35, Try.ntmps35
  go_wp2_with fail
  refine (HC.out _ (by go_grown)).mono ?_
  rintro r_w1 w1 ⟨rfl, hb_w1⟩
  have B_w1 : Below w.heap.size w w1 := by first | exact hb_w1 | exact ((Below.refl _ _).alloc (Nat.le_refl _) _).trans (hb_w1.mono (by simp)) | exact (((Below.refl _ _).alloc (Nat.le_refl _) _).alloc (by simp) _).trans (hb_w1.mono (by simp; omega)) | exact Below.trans (by go_grown) (hb_w1.mono (by simp; omega))
  have z_w1_0 : w.heap.size < w1.heap.size := by have := hb_w1.size; first | omega | (simp at this; omega)
  have c_w1_0_0 : w1.cell? ⟨w.heap.size, 0, none⟩ = some (.slice (some ad) n cap) := (hb_w1.cell (by first | assumption | (simp; done) | (simp; omega))).trans (by first | assumption | (simp; done) | (simp [go_sem]; done) | (simp [*]; done) | ((repeat rw [World.cell?_alloc_lt _ _ _ (by first | (simp; done) | (simp; omega) | omega)]); first | assumption | (simp; done)))
  have f_w1_0_0 : w1.frozen? ⟨w.heap.size, 0, none⟩ = false := (hb_w1.frozen (by first | assumption | (simp; done) | (simp; omega))).trans (by first | assumption | (simp; done) | (simp [go_sem]; done) | ((repeat rw [frozen?_alloc_cells]); first | assumption | (simp; done)) | (simp [*]; done))
  have c_w1_0_1 : w1.cell? ⟨w.heap.size, 1, none⟩ = some (.int .i64 pa) := (hb_w1.cell (by first | assumption | (simp; done) | (simp; omega))).trans (by first | assumption | (simp; done) | (simp [go_sem]; done) | (simp [*]; done) | ((repeat rw [World.cell?_alloc_lt _ _ _ (by first | (simp; done) | (simp; omega) | omega)]); first | assumption | (simp; done)))
  have f_w1_0_1 : w1.frozen? ⟨w.heap.size, 1, none⟩ = false := (hb_w1.frozen (by first | assumption | (simp; done) | (simp; omega))).trans (by first | assumption | (simp; done) | (simp [go_sem]; done) | ((repeat rw [frozen?_alloc_cells]); first | assumption | (simp; done)) | (simp [*]; done))
  have c_w1_0_2 : w1.cell? ⟨w.heap.size, 2, none⟩ = some (.int .i64 pb) := (hb_w1.cell (by first | assumption | (simp; done) | (simp; omega))).trans (by first | assumption | (simp; done) | (simp [go_sem]; done) | (simp [*]; done) | ((repeat rw [World.cell?_alloc_lt _ _ _ (by first | (simp; done) | (simp; omega) | omega)]); first | assumption | (simp; done)))
  have f_w1_0_2 : w1.frozen? ⟨w.heap.size, 2, none⟩ = false := (hb_w1.frozen (by first | assumption | (simp; done) | (simp; omega))).trans (by first | assumption | (simp; done) | (simp [go_sem]; done) | ((repeat rw [frozen?_alloc_cells]); first | assumption | (simp; done)) | (simp [*]; done))
  have c_w1_0_3 : w1.cell? ⟨w.heap.size, 3, none⟩ = some (.int .i64 ga) := (hb_w1.cell (by first | assumption | (simp; done) | (simp; omega))).trans (by first | assumption | (simp; done) | (simp [go_sem]; done) | (simp [*]; done) | ((repeat rw [World.cell?_alloc_lt _ _ _ (by first | (simp; done) | (simp; omega) | omega)]); first | assumption | (simp; done)))
  have f_w1_0_3 : w1.frozen? ⟨w.heap.size, 3, none⟩ = false := (hb_w1.frozen (by first | assumption | (simp; done) | (simp; omega))).trans (by first | assumption | (simp; done) | (simp [go_sem]; done) | ((repeat rw [frozen?_alloc_cells]); first | assumption | (simp; done)) | (simp [*]; done))
  have c_w1_0_4 : w1.cell? ⟨w.heap.size, 4, none⟩ = some (.int .i64 gb) := (hb_w1.cell (by first | assumption | (simp; done) | (simp; omega))).trans (by first | assumption | (simp; done) | (simp [go_sem]; done) | (simp [*]; done) | ((repeat rw [World.cell?_alloc_lt _ _ _ (by first | (simp; done) | (simp; omega) | omega)]); first | assumption | (simp; done)))
  have f_w1_0_4 : w1.frozen? ⟨w.heap.size, 4, none⟩ = false := (hb_w1.frozen (by first | assumption | (simp; done) | (simp; omega))).trans (by first | assumption | (simp; done) | (simp [go_sem]; done) | ((repeat rw [frozen?_alloc_cells]); first | assumption | (simp; done)) | (simp [*]; done))
  have c_w1_0_5 : w1.cell? ⟨w.heap.size, 5, none⟩ = some (.int .i64 se) := (hb_w1.cell (by first | assumption | (simp; done) | (simp; omega))).trans (by first | assumption | (simp; done) | (simp [go_sem]; done) | (simp [*]; done) | ((repeat rw [World.cell?_alloc_lt _ _ _ (by first | (simp; done) | (simp; omega) | omega)]); first | assumption | (simp; done)))
  have f_w1_0_5 : w1.frozen? ⟨w.heap.size, 5, none⟩ = false := (hb_w1.frozen (by first | assumption | (simp; done) | (simp; omega))).trans (by first | assumption | (simp; done) | (simp [go_sem]; done) | ((repeat rw [frozen?_alloc_cells]); first | assumption | (simp; done)) | (simp [*]; done))
  have z_w1_1 : w.heap.size + 1 < w1.heap.size := by have := hb_w1.size; first | omega | (simp at this; omega)
  have c_w1_1_0 : w1.cell? ⟨w.heap.size + 1, 0, none⟩ = some (.slice none 0 0) := (hb_w1.cell (by first | assumption | (simp; done) | (simp; omega))).trans (by first | assumption | (simp; done) | (simp [go_sem]; done) | (simp [*]; done) | ((repeat rw [World.cell?_alloc_lt _ _ _ (by first | (simp; done) | (simp; omega) | omega)]); first | assumption | (simp; done)))
  have f_w1_1_0 : w1.frozen? ⟨w.heap.size + 1, 0, none⟩ = false := (hb_w1.frozen (by first | assumption | (simp; done) | (simp; omega))).trans (by first | assumption | (simp; done) | (simp [go_sem]; done) | ((repeat rw [frozen?_alloc_cells]); first | assumption | (simp; done)) | (simp [*]; done))
  have c_w1_1_1 : w1.cell? ⟨w.heap.size + 1, 1, none⟩ = some (.int .i64 0) := (hb_w1.cell (by first | assumption | (simp; done) | (simp; omega))).trans (by first | assumption | (simp; done) | (simp [go_sem]; done) | (simp [*]; done) | ((repeat rw [World.cell?_alloc_lt _ _ _ (by first | (simp; done) | (simp; omega) | omega)]); first | assumption | (simp; done)))
  have f_w1_1_1 : w1.frozen? ⟨w.heap.size + 1, 1, none⟩ = false := (hb_w1.frozen (by first | assumption | (simp; done) | (simp; omega))).trans (by first | assumption | (simp; done) | (simp [go_sem]; done) | ((repeat rw [frozen?_alloc_cells]); first | assumption | (simp; done)) | (simp [*]; done))
  have c_w1_1_2 : w1.cell? ⟨w.heap.size + 1, 2, none⟩ = some (.int .i64 0) := (hb_w1.cell (by first | assumption | (simp; done) | (simp; omega))).trans (by first | assumption | (simp; done) | (simp [go_sem]; done) | (simp [*]; done) | ((repeat rw [World.cell?_alloc_lt _ _ _ (by first | (simp; done) | (simp; omega) | omega)]); first | assumption | (simp; done)))
  have f_w1_1_2 : w1.frozen? ⟨w.heap.size + 1, 2, none⟩ = false := (hb_w1.frozen (by first | assumption | (simp; done) | (simp; omega))).trans (by first | assumption | (simp; done) | (simp [go_sem]; done) | ((repeat rw [frozen?_alloc_cells]); first | assumption | (simp; done)) | (simp [*]; done))
  have c_w1_1_3 : w1.cell? ⟨w.heap.size + 1, 3, none⟩ = some (.int .i64 0) := (hb_w1.cell (by first | assumption | (simp; done) | (simp; omega))).trans (by first | assumption | (simp; done) | (simp [go_sem]; done) | (simp [*]; done) | ((repeat rw [World.cell?_alloc_lt _ _ _ (by first | (simp; done) | (simp; omega) | omega)]); first | assumption | (simp; done)))
  have f_w1_1_3 : w1.frozen? ⟨w.heap.size + 1, 3, none⟩ = false := (hb_w1.frozen (by first | assumption | (simp; done) | (simp; omega))).trans (by first | assumption | (simp; done) | (simp [go_sem]; done) | ((repeat rw [frozen?_alloc_cells]); first | assumption | (simp; done)) | (simp [*]; done))
  have c_w1_1_4 : w1.cell? ⟨w.heap.size + 1, 4, none⟩ = some (.int .i64 0) := (hb_w1.cell (by first | assumption | (simp; done) | (simp; omega))).trans (by first | assumption | (simp; done) | (simp [go_sem]; done) | (simp [*]; done) | ((repeat rw [World.cell?_alloc_lt _ _ _ (by first | (simp; done) | (simp; omega) | omega)]); first | assumption | (simp; done)))
  have f_w1_1_4 : w1.frozen? ⟨w.heap.size + 1, 4, none⟩ = false := (hb_w1.frozen (by first | assumption | (simp; done) | (simp; omega))).trans (by first | assumption | (simp; done) | (simp [go_sem]; done) | ((repeat rw [frozen?_alloc_cells]); first | assumption | (simp; done)) | (simp [*]; done))
  have c_w1_1_5 : w1.cell? ⟨w.heap.size + 1, 5, none⟩ = some (.int .i64 0) := (hb_w1.cell (by first | assumption | (simp; done) | (simp; omega))).trans (by first | assumption | (simp; done) | (simp [go_sem]; done) | (simp [*]; done) | ((repeat rw [World.cell?_alloc_lt _ _ _ (by first | (simp; done) | (simp; omega) | omega)]); first | assumption | (simp; done)))
  have f_w1_1_5 : w1.frozen? ⟨w.heap.size + 1, 5, none⟩ = false := (hb_w1.frozen (by first | assumption | (simp; done) | (simp; omega))).trans (by first | assumption | (simp; done) | (simp [go_sem]; done) | ((repeat rw [frozen?_alloc_cells]); first | assumption | (simp; done)) | (simp [*]; done))
  clear hb_w1
  go_wp2_with fail
  refine (HA.out _).mono ?_
  rintro r_w2 w2 ⟨rfl, hb_w2⟩
  have B_w2 : Below w.heap.size w w2 := by first | exact B_w1.trans (hb_w2.mono B_w1.size) | exact (B_w1.alloc B_w1.size _).trans (hb_w2.mono (by have := B_w1.size; simp; omega)) | exact ((B_w1.alloc B_w1.size _).alloc (by have := B_w1.size; simp; omega) _).trans (hb_w2.mono (by have := B_w1.size; simp; omega)) | (have := B_w1.size; exact Below.trans (by go_grown) (hb_w2.mono (by simp; omega)))
  have z_w2_0 : w.heap.size < w2.heap.size := by have := hb_w2.size; first | omega | (simp at this; omega)
  have c_w2_0_0 : w2.cell? ⟨w.heap.size, 0, none⟩ = some (.slice (some ad) n cap) := (hb_w2.cell (by first | assumption | (simp; done) | (simp; omega))).trans (by first | assumption | (simp; done) | (simp [go_sem]; done) | (simp [*]; done) | ((repeat rw [World.cell?_alloc_lt _ _ _ (by first | (simp; done) | (simp; omega) | omega)]); first | assumption | (simp; done)))
  have f_w2_0_0 : w2.frozen? ⟨w.heap.size, 0, none⟩ = false := (hb_w2.frozen (by first | assumption | (simp; done) | (simp; omega))).trans (by first | assumption | (simp; done) | (simp [go_sem]; done) | ((repeat rw [frozen?_alloc_cells]); first | assumption | (simp; done)) | (simp [*]; done))
  have c_w2_0_1 : w2.cell? ⟨w.heap.size, 1, none⟩ = some (.int .i64 pa) := (hb_w2.cell (by first | assumption | (simp; done) | (simp; omega))).trans (by first | assumption | (simp; done) | (simp [go_sem]; done) | (simp [*]; done) | ((repeat rw [World.cell?_alloc_lt _ _ _ (by first | (simp; done) | (simp; omega) | omega)]); first | assumption | (simp; done)))
  have f_w2_0_1 : w2.frozen? ⟨w.heap.size, 1, none⟩ = false := (hb_w2.frozen (by first | assumption | (simp; done) | (simp; omega))).trans (by first | assumption | (simp; done) | (simp [go_sem]; done) | ((repeat rw [frozen?_alloc_cells]); first | assumption | (simp; done)) | (simp [*]; done))
  have c_w2_0_2 : w2.cell? ⟨w.heap.size, 2, none⟩ = some (.int .i64 pb) := (hb_w2.cell (by first | assumption | (simp; done) | (simp; omega))).trans (by first | assumption | (simp; done) | (simp [go_sem]; done) | (simp [*]; done) | ((repeat rw [World.cell?_alloc_lt _ _ _ (by first | (simp; done) | (simp; omega) | omega)]); first | assumption | (simp; done)))
  have f_w2_0_2 : w2.frozen? ⟨w.heap.size, 2, none⟩ = false := (hb_w2.frozen (by first | assumption | (simp; done) | (simp; omega))).trans (by first | assumption | (simp; done) | (simp [go_sem]; done) | ((repeat rw [frozen?_alloc_cells]); first | assumption | (simp; done)) | (simp [*]; done))
  have c_w2_0_3 : w2.cell? ⟨w.heap.size, 3, none⟩ = some (.int .i64 ga) := (hb_w2.cell (by first | assumption | (simp; done) | (simp; omega))).trans (by first | assumption | (simp; done) | (simp [go_sem]; done) | (simp [*]; done) | ((repeat rw [World.cell?_alloc_lt _ _ _ (by first | (simp; done) | (simp; omega) | omega)]); first | assumption | (simp; done)))
  have f_w2_0_3 : w2.frozen? ⟨w.heap.size, 3, none⟩ = false := (hb_w2.frozen (by first | assumption | (simp; done) | (simp; omega))).trans (by first | assumption | (simp; done) | (simp [go_sem]; done) | ((repeat rw [frozen?_alloc_cells]); first | assumption | (simp; done)) | (simp [*]; done))
  have c_w2_0_4 : w2.cell? ⟨w.heap.size, 4, none⟩ = some (.int .i64 gb) := (hb_w2.cell (by first | assumption | (simp; done) | (simp; omega))).trans (by first | assumption | (simp; done) | (simp [go_sem]; done) | (simp [*]; done) | ((repeat rw [World.cell?_alloc_lt _ _ _ (by first | (simp; done) | (simp; omega) | omega)]); first | assumption | (simp; done)))
  have f_w2_0_4 : w2.frozen? ⟨w.heap.size, 4, none⟩ = false := (hb_w2.frozen (by first | assumption | (simp; done) | (simp; omega))).trans (by first | assumption | (simp; done) | (simp [go_sem]; done) | ((repeat rw [frozen?_alloc_cells]); first | assumption | (simp; done)) | (simp [*]; done))
  have c_w2_0_5 : w2.cell? ⟨w.heap.size, 5, none⟩ = some (.int .i64 se) := (hb_w2.cell (by first | assumption | (simp; done) | (simp; omega))).trans (by first | assumption | (simp; done) | (simp [go_sem]; done) | (simp [*]; done) | ((repeat rw [World.cell?_alloc_lt _ _ _ (by first | (simp; done) | (simp; omega) | omega)]); first | assumption | (simp; done)))
  have f_w2_0_5 : w2.frozen? ⟨w.heap.size, 5, none⟩ = false := (hb_w2.frozen (by first | assumption | (simp; done) | (simp; omega))).trans (by first | assumption | (simp; done) | (simp [go_sem]; done) | ((repeat rw [frozen?_alloc_cells]); first | assumption | (simp; done)) | (simp [*]; done))
  have z_w2_1 : w.heap.size + 1 < w2.heap.size := by have := hb_w2.size; first | omega | (simp at this; omega)
  have c_w2_1_0 : w2.cell? ⟨w.heap.size + 1, 0, none⟩ = some (.slice none 0 0) := (hb_w2.cell (by first | assumption | (simp; done) | (simp; omega))).trans (by first | assumption | (simp; done) | (simp [go_sem]; done) | (simp [*]; done) | ((repeat rw [World.cell?_alloc_lt _ _ _ (by first | (simp; done) | (simp; omega) | omega)]); first | assumption | (simp; done)))
  have f_w2_1_0 : w2.frozen? ⟨w.heap.size + 1, 0, none⟩ = false := (hb_w2.frozen (by first | assumption | (simp; done) | (simp; omega))).trans (by first | assumption | (simp; done) | (simp [go_sem]; done) | ((repeat rw [frozen?_alloc_cells]); first | assumption | (simp; done)) | (simp [*]; done))
  have c_w2_1_1 : w2.cell? ⟨w.heap.size + 1, 1, none⟩ = some (.int .i64 0) := (hb_w2.cell (by first | assumption | (simp; done) | (simp; omega))).trans (by first | assumption | (simp; done) | (simp [go_sem]; done) | (simp [*]; done) | ((repeat rw [World.cell?_alloc_lt _ _ _ (by first | (simp; done) | (simp; omega) | omega)]); first | assumption | (simp; done)))
  have f_w2_1_1 : w2.frozen? ⟨w.heap.size + 1, 1, none⟩ = false := (hb_w2.frozen (by first | assumption | (simp; done) | (simp; omega))).trans (by first | assumption | (simp; done) | (simp [go_sem]; done) | ((repeat rw [frozen?_alloc_cells]); first | assumption | (simp; done)) | (simp [*]; done))
  have c_w2_1_2 : w2.cell? ⟨w.heap.size + 1, 2, none⟩ = some (.int .i64 0) := (hb_w2.cell (by first | assumption | (simp; done) | (simp; omega))).trans (by first | assumption | (simp; done) | (simp [go_sem]; done) | (simp [*]; done) | ((repeat rw [World.cell?_alloc_lt _ _ _ (by first | (simp; done) | (simp; omega) | omega)]); first | assumption | (simp; done)))
  have f_w2_1_2 : w2.frozen? ⟨w.heap.size + 1, 2, none⟩ = false := (hb_w2.frozen (by first | assumption | (simp; done) | (simp; omega))).trans (by first | assumption | (simp; done) | (simp [go_sem]; done) | ((repeat rw [frozen?_alloc_cells]); first | assumption | (simp; done)) | (simp [*]; done))
  have c_w2_1_3 : w2.cell? ⟨w.heap.size + 1, 3, none⟩ = some (.int .i64 0) := (hb_w2.cell (by first | assumption | (simp; done) | (simp; omega))).trans (by first | assumption | (simp; done) | (simp [go_sem]; done) | (simp [*]; done) | ((repeat rw [World.cell?_alloc_lt _ _ _ (by first | (simp; done) | (simp; omega) | omega)]); first | assumption | (simp; done)))
  have f_w2_1_3 : w2.frozen? ⟨w.heap.size + 1, 3, none⟩ = false := (hb_w2.frozen (by first | assumption | (simp; done) | (simp; omega))).trans (by first | assumption | (simp; done) | (simp [go_sem]; done) | ((repeat rw [frozen?_alloc_cells]); first | assumption | (simp; done)) | (simp [*]; done))
  have c_w2_1_4 : w2.cell? ⟨w.heap.size + 1, 4, none⟩ = some (.int .i64 0) := (hb_w2.cell (by first | assumption | (simp; done) | (simp; omega))).trans (by first | assumption | (simp; done) | (simp [go_sem]; done) | (simp [*]; done) | ((repeat rw [World.cell?_alloc_lt _ _ _ (by first | (simp; done) | (simp; omega) | omega)]); first | assumption | (simp; done)))
  have f_w2_1_4 : w2.frozen? ⟨w.heap.size + 1, 4, none⟩ = false := (hb_w2.frozen (by first | assumption | (simp; done) | (simp; omega))).trans (by first | assumption | (simp; done) | (simp [go_sem]; done) | ((repeat rw [frozen?_alloc_cells]); first | assumption | (simp; done)) | (simp [*]; done))
  have c_w2_1_5 : w2.cell? ⟨w.heap.size + 1, 5, none⟩ = some (.int .i64 0) := (hb_w2.cell (by first | assumption | (simp; done) | (simp; omega))).trans (by first | assumption | (simp; done) | (simp [go_sem]; done) | (simp [*]; done) | ((repeat rw [World.cell?_alloc_lt _ _ _ (by first | (simp; done) | (simp; omega) | omega)]); first | assumption | (simp; done)))
  have f_w2_1_5 : w2.frozen? ⟨w.heap.size + 1, 5, none⟩ = false := (hb_w2.frozen (by first | assumption | (simp; done) | (simp; omega))).trans (by first | assumption | (simp; done) | (simp [go_sem]; done) | ((repeat rw [frozen?_alloc_cells]); first | assumption | (simp; done)) | (simp [*]; done))
  clear c_w1_0_0 f_w1_0_0 c_w1_0_1 f_w1_0_1 c_w1_0_2 f_w1_0_2 c_w1_0_3 f_w1_0_3 c_w1_0_4 f_w1_0_4 c_w1_0_5 f_w1_0_5 c_w1_1_0 f_w1_1_0 c_w1_1_1 f_w1_1_1 c_w1_1_2 f_w1_1_2 c_w1_1_3 f_w1_1_3 c_w1_1_4 f_w1_1_4 c_w1_1_5 f_w1_1_5 z_w1_0 z_w1_1 B_w1 hb_w2
  repeat (first | go_values | go_skip | go_guarded | go_step | go_upon | (simp only []; go_at_K) | simp only [])
  refine bodyPost_ret (v := .tuple #[zRing, .int .i64 11]) (by simp [results, Try.results35, go_sem, zRing, z_w2_1, c_w2_1_0, c_w2_1_1, c_w2_1_2, c_w2_1_3, c_w2_1_4, c_w2_1_5]) rfl (HPost.out _ _ ⟨rfl, ?_⟩)
  have hz := B_w2.size
  go_grown
set_option maxHeartbeats 2000000 in
theorem putR_ok (pa : Nat) (pb ga gb se word : Int) (ad : Addr) (cap : Nat) (l : List RC) (w : World) (hr : Reads w 3 (.slice (some ad) l.length cap) l.length (rcells l)) (hE : ringErr l pa pb ga gb se = 0) (hf : advA pa l.length ≠ se) :
    Calls Try.prog 35 #[.agg #[.slice (some ad) l.length cap, .int .i64 pa, .int .i64 pb, .int .i64 ga, .int .i64 gb, .int .i64 se], .int .u64 word] w fun e w' => ∃ g cap', e = .returned (.tuple #[.agg #[.slice (some ⟨g, 0, none⟩) l.length cap', .int .i64 (advA pa l.length), .int .i64 (advB pa pb l.length), .int .i64 ga, .int .i64 gb, .int .i64 se], .int .i64 0]) ∧ w'.ownsRow w.heap.size 75 3 (.slice (some ⟨g, 0, none⟩) l.length cap') l.length (rcells (putL l pa pb word)) ∧ Below w.heap.size w w' := by
  have HC : Hid (∀ w' : World, Below w.heap.size w w' → Calls Try.prog 37 #[.agg #[.slice (some ad) l.length cap, .int .i64 pa, .int .i64 pb, .int .i64 ga, .int .i64 gb, .int .i64 se]] w' fun r w'' => r = .returned (.int .i64 0) ∧ Below w'.heap.size w' w'') := fun w' hb => by
    have h := ringR_any pa pb ga gb se (some ad) cap l w' (hr.below hb (Nat.le_refl _))
    rwa [hE] at h
  obtain ⟨h1, h2, h3, h4, h5, h6, h7, h8⟩ := ringErr_ok hE
  have HA := Lib.hid (goneOn_any pa pb l.length h1 h6 h3)
  have hlt : pa + 1 < l.length := by omega
  have HG := Lib.hid (putL_get l pa pb word hlt h2)
  generalize advA pa l.length = na at *
  generalize advB pa pb l.length = nb at *
  have hq : (na == se) = false := by simpa using hf
  have HPL : Hid ((putL l pa pb word).length = l.length) := Lib.hid (putL_length l pa pb word)
  generalize putL l pa pb word = pl at *
  have H1 := Lib.hid h1
  have HR := Lib.hid hr
  clear h1 h2 h3 h4 h5 h6 h7 h8 hE hr hf
  generalize hn : l.length = n at *
  have HN := Lib.hid hn
  clear hn
  have hn64 : n ≤ 64 := H1.out.2
  go_enter Try.func35, Try.ntmps35
  go_wp2_with fail
  refine (HC.out _ (by go_grown)).mono ?_
  rintro r_w1 w1 ⟨rfl, hb_w1⟩
  have B_w1 : Below w.heap.size w w1 := by first | exact hb_w1 | exact ((Below.refl _ _).alloc (Nat.le_refl _) _).trans (hb_w1.mono (by simp)) | exact (((Below.refl _ _).alloc (Nat.le_refl _) _).alloc (by simp) _).trans (hb_w1.mono (by simp; omega)) | exact Below.trans (by go_grown) (hb_w1.mono (by simp; omega))
  have z_w1_0 : w.heap.size < w1.heap.size := by have := hb_w1.size; first | omega | (simp at this; omega)
  have c_w1_0_0 : w1.cell? ⟨w.heap.size, 0, none⟩ = some (.slice (some ad) n cap) := (hb_w1.cell (by first | assumption | (simp; done) | (simp; omega))).trans (by first | assumption | (simp; done) | (simp [go_sem]; done) | (simp [*]; done) | ((repeat rw [World.cell?_alloc_lt _ _ _ (by first | (simp; done) | (simp; omega) | omega)]); first | assumption | (simp; done)))
  have f_w1_0_0 : w1.frozen? ⟨w.heap.size, 0, none⟩ = false := (hb_w1.frozen (by first | assumption | (simp; done) | (simp; omega))).trans (by first | assumption | (simp; done) | (simp [go_sem]; done) | ((repeat rw [frozen?_alloc_cells]); first | assumption | (simp; done)) | (simp [*]; done))
  have c_w1_0_1 : w1.cell? ⟨w.heap.size, 1, none⟩ = some (.int .i64 pa) := (hb_w1.cell (by first | assumption | (simp; done) | (simp; omega))).trans (by first | assumption | (simp; done) | (simp [go_sem]; done) | (simp [*]; done) | ((repeat rw [World.cell?_alloc_lt _ _ _ (by first | (simp; done) | (simp; omega) | omega)]); first | assumption | (simp; done)))
  have f_w1_0_1 : w1.frozen? ⟨w.heap.size, 1, none⟩ = false := (hb_w1.frozen (by first | assumption | (simp; done) | (simp; omega))).trans (by first | assumption | (simp; done) | (simp [go_sem]; done) | ((repeat rw [frozen?_alloc_cells]); first | assumption | (simp; done)) | (simp [*]; done))
  have c_w1_0_2 : w1.cell? ⟨w.heap.size, 2, none⟩ = some (.int .i64 pb) := (hb_w1.cell (by first | assumption | (simp; done) | (simp; omega))).trans (by first | assumption | (simp; done) | (simp [go_sem]; done) | (simp [*]; done) | ((repeat rw [World.cell?_alloc_lt _ _ _ (by first | (simp; done) | (simp; omega) | omega)]); first | assumption | (simp; done)))
  have f_w1_0_2 : w1.frozen? ⟨w.heap.size, 2, none⟩ = false := (hb_w1.frozen (by first | assumption | (simp; done) | (simp; omega))).trans (by first | assumption | (simp; done) | (simp [go_sem]; done) | ((repeat rw [frozen?_alloc_cells]); first | assumption | (simp; done)) | (simp [*]; done))
  have c_w1_0_3 : w1.cell? ⟨w.heap.size, 3, none⟩ = some (.int .i64 ga) := (hb_w1.cell (by first | assumption | (simp; done) | (simp; omega))).trans (by first | assumption | (simp; done) | (simp [go_sem]; done) | (simp [*]; done) | ((repeat rw [World.cell?_alloc_lt _ _ _ (by first | (simp; done) | (simp; omega) | omega)]); first | assumption | (simp; done)))
  have f_w1_0_3 : w1.frozen? ⟨w.heap.size, 3, none⟩ = false := (hb_w1.frozen (by first | assumption | (simp; done) | (simp; omega))).trans (by first | assumption | (simp; done) | (simp [go_sem]; done) | ((repeat rw [frozen?_alloc_cells]); first | assumption | (simp; done)) | (simp [*]; done))
  have c_w1_0_4 : w1.cell? ⟨w.heap.size, 4, none⟩ = some (.int .i64 gb) := (hb_w1.cell (by first | assumption | (simp; done) | (simp; omega))).trans (by first | assumption | (simp; done) | (simp [go_sem]; done) | (simp [*]; done) | ((repeat rw [World.cell?_alloc_lt _ _ _ (by first | (simp; done) | (simp; omega) | omega)]); first | assumption | (simp; done)))
  have f_w1_0_4 : w1.frozen? ⟨w.heap.size, 4, none⟩ = false := (hb_w1.frozen (by first | assumption | (simp; done) | (simp; omega))).trans (by first | assumption | (simp; done) | (simp [go_sem]; done) | ((repeat rw [frozen?_alloc_cells]); first | assumption | (simp; done)) | (simp [*]; done))
  have c_w1_0_5 : w1.cell? ⟨w.heap.size, 5, none⟩ = some (.int .i64 se) := (hb_w1.cell (by first | assumption | (simp; done) | (simp; omega))).trans (by first | assumption | (simp; done) | (simp [go_sem]; done) | (simp [*]; done) | ((repeat rw [World.cell?_alloc_lt _ _ _ (by first | (simp; done) | (simp; omega) | omega)]); first | assumption | (simp; done)))
  have f_w1_0_5 : w1.frozen? ⟨w.heap.size, 5, none⟩ = false := (hb_w1.frozen (by first | assumption | (simp; done) | (simp; omega))).trans (by first | assumption | (simp; done) | (simp [go_sem]; done) | ((repeat rw [frozen?_alloc_cells]); first | assumption | (simp; done)) | (simp [*]; done))
  have z_w1_1 : w.heap.size + 1 < w1.heap.size := by have := hb_w1.size; first | omega | (simp at this; omega)
  have c_w1_1_0 : w1.cell? ⟨w.heap.size + 1, 0, none⟩ = some (.slice none 0 0) := (hb_w1.cell (by first | assumption | (simp; done) | (simp; omega))).trans (by first | assumption | (simp; done) | (simp [go_sem]; done) | (simp [*]; done) | ((repeat rw [World.cell?_alloc_lt _ _ _ (by first | (simp; done) | (simp; omega) | omega)]); first | assumption | (simp; done)))
  have f_w1_1_0 : w1.frozen? ⟨w.heap.size + 1, 0, none⟩ = false := (hb_w1.frozen (by first | assumption | (simp; done) | (simp; omega))).trans (by first | assumption | (simp; done) | (simp [go_sem]; done) | ((repeat rw [frozen?_alloc_cells]); first | assumption | (simp; done)) | (simp [*]; done))
  have c_w1_1_1 : w1.cell? ⟨w.heap.size + 1, 1, none⟩ = some (.int .i64 0) := (hb_w1.cell (by first | assumption | (simp; done) | (simp; omega))).trans (by first | assumption | (simp; done) | (simp [go_sem]; done) | (simp [*]; done) | ((repeat rw [World.cell?_alloc_lt _ _ _ (by first | (simp; done) | (simp; omega) | omega)]); first | assumption | (simp; done)))
  have f_w1_1_1 : w1.frozen? ⟨w.heap.size + 1, 1, none⟩ = false := (hb_w1.frozen (by first | assumption | (simp; done) | (simp; omega))).trans (by first | assumption | (simp; done) | (simp [go_sem]; done) | ((repeat rw [frozen?_alloc_cells]); first | assumption | (simp; done)) | (simp [*]; done))
  have c_w1_1_2 : w1.cell? ⟨w.heap.size + 1, 2, none⟩ = some (.int .i64 0) := (hb_w1.cell (by first | assumption | (simp; done) | (simp; omega))).trans (by first | assumption | (simp; done) | (simp [go_sem]; done) | (simp [*]; done) | ((repeat rw [World.cell?_alloc_lt _ _ _ (by first | (simp; done) | (simp; omega) | omega)]); first | assumption | (simp; done)))
  have f_w1_1_2 : w1.frozen? ⟨w.heap.size + 1, 2, none⟩ = false := (hb_w1.frozen (by first | assumption | (simp; done) | (simp; omega))).trans (by first | assumption | (simp; done) | (simp [go_sem]; done) | ((repeat rw [frozen?_alloc_cells]); first | assumption | (simp; done)) | (simp [*]; done))
  have c_w1_1_3 : w1.cell? ⟨w.heap.size + 1, 3, none⟩ = some (.int .i64 0) := (hb_w1.cell (by first | assumption | (simp; done) | (simp; omega))).trans (by first | assumption | (simp; done) | (simp [go_sem]; done) | (simp [*]; done) | ((repeat rw [World.cell?_alloc_lt _ _ _ (by first | (simp; done) | (simp; omega) | omega)]); first | assumption | (simp; done)))
  have f_w1_1_3 : w1.frozen? ⟨w.heap.size + 1, 3, none⟩ = false := (hb_w1.frozen (by first | assumption | (simp; done) | (simp; omega))).trans (by first | assumption | (simp; done) | (simp [go_sem]; done) | ((repeat rw [frozen?_alloc_cells]); first | assumption | (simp; done)) | (simp [*]; done))
  have c_w1_1_4 : w1.cell? ⟨w.heap.size + 1, 4, none⟩ = some (.int .i64 0) := (hb_w1.cell (by first | assumption | (simp; done) | (simp; omega))).trans (by first | assumption | (simp; done) | (simp [go_sem]; done) | (simp [*]; done) | ((repeat rw [World.cell?_alloc_lt _ _ _ (by first | (simp; done) | (simp; omega) | omega)]); first | assumption | (simp; done)))
  have f_w1_1_4 : w1.frozen? ⟨w.heap.size + 1, 4, none⟩ = false := (hb_w1.frozen (by first | assumption | (simp; done) | (simp; omega))).trans (by first | assumption | (simp; done) | (simp [go_sem]; done) | ((repeat rw [frozen?_alloc_cells]); first | assumption | (simp; done)) | (simp [*]; done))
  have c_w1_1_5 : w1.cell? ⟨w.heap.size + 1, 5, none⟩ = some (.int .i64 0) := (hb_w1.cell (by first | assumption | (simp; done) | (simp; omega))).trans (by first | assumption | (simp; done) | (simp [go_sem]; done) | (simp [*]; done) | ((repeat rw [World.cell?_alloc_lt _ _ _ (by first | (simp; done) | (simp; omega) | omega)]); first | assumption | (simp; done)))
  have f_w1_1_5 : w1.frozen? ⟨w.heap.size + 1, 5, none⟩ = false := (hb_w1.frozen (by first | assumption | (simp; done) | (simp; omega))).trans (by first | assumption | (simp; done) | (simp [go_sem]; done) | ((repeat rw [frozen?_alloc_cells]); first | assumption | (simp; done)) | (simp [*]; done))
  clear hb_w1
  go_wp2_with fail
  refine (HA.out _).mono ?_
  rintro r_w2 w2 ⟨rfl, hb_w2⟩
  have B_w2 : Below w.heap.size w w2 := by first | exact B_w1.trans (hb_w2.mono B_w1.size) | exact (B_w1.alloc B_w1.size _).trans (hb_w2.mono (by have := B_w1.size; simp; omega)) | exact ((B_w1.alloc B_w1.size _).alloc (by have := B_w1.size; simp; omega) _).trans (hb_w2.mono (by have := B_w1.size; simp; omega)) | (have := B_w1.size; exact Below.trans (by go_grown) (hb_w2.mono (by simp; omega)))
  have z_w2_0 : w.heap.size < w2.heap.size := by have := hb_w2.size; first | omega | (simp at this; omega)
  have c_w2_0_0 : w2.cell? ⟨w.heap.size, 0, none⟩ = some (.slice (some ad) n cap) := (hb_w2.cell (by first | assumption | (simp; done) | (simp; omega))).trans (by first | assumption | (simp; done) | (simp [go_sem]; done) | (simp [*]; done) | ((repeat rw [World.cell?_alloc_lt _ _ _ (by first | (simp; done) | (simp; omega) | omega)]); first | assumption | (simp; done)))
  have f_w2_0_0 : w2.frozen? ⟨w.heap.size, 0, none⟩ = false := (hb_w2.frozen (by first | assumption | (simp; done) | (simp; omega))).trans (by first | assumption | (simp; done) | (simp [go_sem]; done) | ((repeat rw [frozen?_alloc_cells]); first | assumption | (simp; done)) | (simp [*]; done))
  have c_w2_0_1 : w2.cell? ⟨w.heap.size, 1, none⟩ = some (.int .i64 pa) := (hb_w2.cell (by first | assumption | (simp; done) | (simp; omega))).trans (by first | assumption | (simp; done) | (simp [go_sem]; done) | (simp [*]; done) | ((repeat rw [World.cell?_alloc_lt _ _ _ (by first | (simp; done) | (simp; omega) | omega)]); first | assumption | (simp; done)))
  have f_w2_0_1 : w2.frozen? ⟨w.heap.size, 1, none⟩ = false := (hb_w2.frozen (by first | assumption | (simp; done) | (simp; omega))).trans (by first | assumption | (simp; done) | (simp [go_sem]; done) | ((repeat rw [frozen?_alloc_cells]); first | assumption | (simp; done)) | (simp [*]; done))
  have c_w2_0_2 : w2.cell? ⟨w.heap.size, 2, none⟩ = some (.int .i64 pb) := (hb_w2.cell (by first | assumption | (simp; done) | (simp; omega))).trans (by first | assumption | (simp; done) | (simp [go_sem]; done) | (simp [*]; done) | ((repeat rw [World.cell?_alloc_lt _ _ _ (by first | (simp; done) | (simp; omega) | omega)]); first | assumption | (simp; done)))
  have f_w2_0_2 : w2.frozen? ⟨w.heap.size, 2, none⟩ = false := (hb_w2.frozen (by first | assumption | (simp; done) | (simp; omega))).trans (by first | assumption | (simp; done) | (simp [go_sem]; done) | ((repeat rw [frozen?_alloc_cells]); first | assumption | (simp; done)) | (simp [*]; done))
  have c_w2_0_3 : w2.cell? ⟨w.heap.size, 3, none⟩ = some (.int .i64 ga) := (hb_w2.cell (by first | assumption | (simp; done) | (simp; omega))).trans (by first | assumption | (simp; done) | (simp [go_sem]; done) | (simp [*]; done) | ((repeat rw [World.cell?_alloc_lt _ _ _ (by first | (simp; done) | (simp; omega) | omega)]); first | assumption | (simp; done)))
  have f_w2_0_3 : w2.frozen? ⟨w.heap.size, 3, none⟩ = false := (hb_w2.frozen (by first | assumption | (simp; done) | (simp; omega))).trans (by first | assumption | (simp; done) | (simp [go_sem]; done) | ((repeat rw [frozen?_alloc_cells]); first | assumption | (simp; done)) | (simp [*]; done))
  have c_w2_0_4 : w2.cell? ⟨w.heap.size, 4, none⟩ = some (.int .i64 gb) := (hb_w2.cell (by first | assumption | (simp; done) | (simp; omega))).trans (by first | assumption | (simp; done) | (simp [go_sem]; done) | (simp [*]; done) | ((repeat rw [World.cell?_alloc_lt _ _ _ (by first | (simp; done) | (simp; omega) | omega)]); first | assumption | (simp; done)))
  have f_w2_0_4 : w2.frozen? ⟨w.heap.size, 4, none⟩ = false := (hb_w2.frozen (by first | assumption | (simp; done) | (simp; omega))).trans (by first | assumption | (simp; done) | (simp [go_sem]; done) | ((repeat rw [frozen?_alloc_cells]); first | assumption | (simp; done)) | (simp [*]; done))
  have c_w2_0_5 : w2.cell? ⟨w.heap.size, 5, none⟩ = some (.int .i64 se) := (hb_w2.cell (by first | assumption | (simp; done) | (simp; omega))).trans (by first | assumption | (simp; done) | (simp [go_sem]; done) | (simp [*]; done) | ((repeat rw [World.cell?_alloc_lt _ _ _ (by first | (simp; done) | (simp; omega) | omega)]); first | assumption | (simp; done)))
  have f_w2_0_5 : w2.frozen? ⟨w.heap.size, 5, none⟩ = false := (hb_w2.frozen (by first | assumption | (simp; done) | (simp; omega))).trans (by first | assumption | (simp; done) | (simp [go_sem]; done) | ((repeat rw [frozen?_alloc_cells]); first | assumption | (simp; done)) | (simp [*]; done))
  have z_w2_1 : w.heap.size + 1 < w2.heap.size := by have := hb_w2.size; first | omega | (simp at this; omega)
  have c_w2_1_0 : w2.cell? ⟨w.heap.size + 1, 0, none⟩ = some (.slice none 0 0) := (hb_w2.cell (by first | assumption | (simp; done) | (simp; omega))).trans (by first | assumption | (simp; done) | (simp [go_sem]; done) | (simp [*]; done) | ((repeat rw [World.cell?_alloc_lt _ _ _ (by first | (simp; done) | (simp; omega) | omega)]); first | assumption | (simp; done)))
  have f_w2_1_0 : w2.frozen? ⟨w.heap.size + 1, 0, none⟩ = false := (hb_w2.frozen (by first | assumption | (simp; done) | (simp; omega))).trans (by first | assumption | (simp; done) | (simp [go_sem]; done) | ((repeat rw [frozen?_alloc_cells]); first | assumption | (simp; done)) | (simp [*]; done))
  have c_w2_1_1 : w2.cell? ⟨w.heap.size + 1, 1, none⟩ = some (.int .i64 0) := (hb_w2.cell (by first | assumption | (simp; done) | (simp; omega))).trans (by first | assumption | (simp; done) | (simp [go_sem]; done) | (simp [*]; done) | ((repeat rw [World.cell?_alloc_lt _ _ _ (by first | (simp; done) | (simp; omega) | omega)]); first | assumption | (simp; done)))
  have f_w2_1_1 : w2.frozen? ⟨w.heap.size + 1, 1, none⟩ = false := (hb_w2.frozen (by first | assumption | (simp; done) | (simp; omega))).trans (by first | assumption | (simp; done) | (simp [go_sem]; done) | ((repeat rw [frozen?_alloc_cells]); first | assumption | (simp; done)) | (simp [*]; done))
  have c_w2_1_2 : w2.cell? ⟨w.heap.size + 1, 2, none⟩ = some (.int .i64 0) := (hb_w2.cell (by first | assumption | (simp; done) | (simp; omega))).trans (by first | assumption | (simp; done) | (simp [go_sem]; done) | (simp [*]; done) | ((repeat rw [World.cell?_alloc_lt _ _ _ (by first | (simp; done) | (simp; omega) | omega)]); first | assumption | (simp; done)))
  have f_w2_1_2 : w2.frozen? ⟨w.heap.size + 1, 2, none⟩ = false := (hb_w2.frozen (by first | assumption | (simp; done) | (simp; omega))).trans (by first | assumption | (simp; done) | (simp [go_sem]; done) | ((repeat rw [frozen?_alloc_cells]); first | assumption | (simp; done)) | (simp [*]; done))
  have c_w2_1_3 : w2.cell? ⟨w.heap.size + 1, 3, none⟩ = some (.int .i64 0) := (hb_w2.cell (by first | assumption | (simp; done) | (simp; omega))).trans (by first | assumption | (simp; done) | (simp [go_sem]; done) | (simp [*]; done) | ((repeat rw [World.cell?_alloc_lt _ _ _ (by first | (simp; done) | (simp; omega) | omega)]); first | assumption | (simp; done)))
  have f_w2_1_3 : w2.frozen? ⟨w.heap.size + 1, 3, none⟩ = false := (hb_w2.frozen (by first | assumption | (simp; done) | (simp; omega))).trans (by first | assumption | (simp; done) | (simp [go_sem]; done) | ((repeat rw [frozen?_alloc_cells]); first | assumption | (simp; done)) | (simp [*]; done))
  have c_w2_1_4 : w2.cell? ⟨w.heap.size + 1, 4, none⟩ = some (.int .i64 0) := (hb_w2.cell (by first | assumption | (simp; done) | (simp; omega))).trans (by first | assumption | (simp; done) | (simp [go_sem]; done) | (simp [*]; done) | ((repeat rw [World.cell?_alloc_lt _ _ _ (by first | (simp; done) | (simp; omega) | omega)]); first | assumption | (simp; done)))
  have f_w2_1_4 : w2.frozen? ⟨w.heap.size + 1, 4, none⟩ = false := (hb_w2.frozen (by first | assumption | (simp; done) | (simp; omega))).trans (by first | assumption | (simp; done) | (simp [go_sem]; done) | ((repeat rw [frozen?_alloc_cells]); first | assumption | (simp; done)) | (simp [*]; done))
  have c_w2_1_5 : w2.cell? ⟨w.heap.size + 1, 5, none⟩ = some (.int .i64 0) := (hb_w2.cell (by first | assumption | (simp; done) | (simp; omega))).trans (by first | assumption | (simp; done) | (simp [go_sem]; done) | (simp [*]; done) | ((repeat rw [World.cell?_alloc_lt _ _ _ (by first | (simp; done) | (simp; omega) | omega)]); first | assumption | (simp; done)))
  have f_w2_1_5 : w2.frozen? ⟨w.heap.size + 1, 5, none⟩ = false := (hb_w2.frozen (by first | assumption | (simp; done) | (simp; omega))).trans (by first | assumption | (simp; done) | (simp [go_sem]; done) | ((repeat rw [frozen?_alloc_cells]); first | assumption | (simp; done)) | (simp [*]; done))
  clear c_w1_0_0 f_w1_0_0 c_w1_0_1 f_w1_0_1 c_w1_0_2 f_w1_0_2 c_w1_0_3 f_w1_0_3 c_w1_0_4 f_w1_0_4 c_w1_0_5 f_w1_0_5 c_w1_1_0 f_w1_1_0 c_w1_1_1 f_w1_1_1 c_w1_1_2 f_w1_1_2 c_w1_1_3 f_w1_1_3 c_w1_1_4 f_w1_1_4 c_w1_1_5 f_w1_1_5 z_w1_0 z_w1_1 B_w1 hb_w2
  go_wp2_with fail
  have hz3 : ((w2.alloc (.cells #[.int .i64 na, .int .i64 nb] 63)).alloc (.cells #[.slice none 0 0, .int .i64 na, .int .i64 nb, .int .i64 ga, .int .i64 gb, .int .i64 se] 65)).heap.size = w2.heap.size + 2 := by simp
  have hz2 : w.heap.size + 1 < w2.heap.size := z_w2_1
  have B_w3 : Below w.heap.size w (((w2.alloc (.cells #[.int .i64 na, .int .i64 nb] 63)).alloc (.cells #[.slice none 0 0, .int .i64 na, .int .i64 nb, .int .i64 ga, .int .i64 gb, .int .i64 se] 65))) := by first | (have hz9 := B_w2.size; go_grown; done) | exact Below.trans (by go_grown) (below_drewN _ _ _)
  have z_w3_0 : w.heap.size < (((w2.alloc (.cells #[.int .i64 na, .int .i64 nb] 63)).alloc (.cells #[.slice none 0 0, .int .i64 na, .int .i64 nb, .int .i64 ga, .int .i64 gb, .int .i64 se] 65))).heap.size := by first | (with_reducible assumption) | (simp; done) | (simp; omega)
  have c_w3_0_0 : (((w2.alloc (.cells #[.int .i64 na, .int .i64 nb] 63)).alloc (.cells #[.slice none 0 0, .int .i64 na, .int .i64 nb, .int .i64 ga, .int .i64 gb, .int .i64 se] 65))).cell? ⟨w.heap.size, 0, none⟩ = some (.slice (some ad) n cap) := by first | (with_reducible assumption) | (simp [go_sem]; done) | (simp; done) | (simp [*]; done) | (simp [go_sem, *]; done)
  have f_w3_0_0 : (((w2.alloc (.cells #[.int .i64 na, .int .i64 nb] 63)).alloc (.cells #[.slice none 0 0, .int .i64 na, .int .i64 nb, .int .i64 ga, .int .i64 gb, .int .i64 se] 65))).frozen? ⟨w.heap.size, 0, none⟩ = false := by first | (with_reducible assumption) | (simp [go_sem]; done) | (simp; done) | ((repeat rw [frozen?_alloc_cells]); first | with_reducible assumption | (simp; done)) | (simp [*]; done)
  have c_w3_0_1 : (((w2.alloc (.cells #[.int .i64 na, .int .i64 nb] 63)).alloc (.cells #[.slice none 0 0, .int .i64 na, .int .i64 nb, .int .i64 ga, .int .i64 gb, .int .i64 se] 65))).cell? ⟨w.heap.size, 1, none⟩ = some (.int .i64 pa) := by first | (with_reducible assumption) | (simp [go_sem]; done) | (simp; done) | (simp [*]; done) | (simp [go_sem, *]; done)
  have f_w3_0_1 : (((w2.alloc (.cells #[.int .i64 na, .int .i64 nb] 63)).alloc (.cells #[.slice none 0 0, .int .i64 na, .int .i64 nb, .int .i64 ga, .int .i64 gb, .int .i64 se] 65))).frozen? ⟨w.heap.size, 1, none⟩ = false := by first | (with_reducible assumption) | (simp [go_sem]; done) | (simp; done) | ((repeat rw [frozen?_alloc_cells]); first | with_reducible assumption | (simp; done)) | (simp [*]; done)
  have c_w3_0_2 : (((w2.alloc (.cells #[.int .i64 na, .int .i64 nb] 63)).alloc (.cells #[.slice none 0 0, .int .i64 na, .int .i64 nb, .int .i64 ga, .int .i64 gb, .int .i64 se] 65))).cell? ⟨w.heap.size, 2, none⟩ = some (.int .i64 pb) := by first | (with_reducible assumption) | (simp [go_sem]; done) | (simp; done) | (simp [*]; done) | (simp [go_sem, *]; done)
  have f_w3_0_2 : (((w2.alloc (.cells #[.int .i64 na, .int .i64 nb] 63)).alloc (.cells #[.slice none 0 0, .int .i64 na, .int .i64 nb, .int .i64 ga, .int .i64 gb, .int .i64 se] 65))).frozen? ⟨w.heap.size, 2, none⟩ = false := by first | (with_reducible assumption) | (simp [go_sem]; done) | (simp; done) | ((repeat rw [frozen?_alloc_cells]); first | with_reducible assumption | (simp; done)) | (simp [*]; done)
  have c_w3_0_3 : (((w2.alloc (.cells #[.int .i64 na, .int .i64 nb] 63)).alloc (.cells #[.slice none 0 0, .int .i64 na, .int .i64 nb, .int .i64 ga, .int .i64 gb, .int .i64 se] 65))).cell? ⟨w.heap.size, 3, none⟩ = some (.int .i64 ga) := by first | (with_reducible assumption) | (simp [go_sem]; done) | (simp; done) | (simp [*]; done) | (simp [go_sem, *]; done)
  have f_w3_0_3 : (((w2.alloc (.cells #[.int .i64 na, .int .i64 nb] 63)).alloc (.cells #[.slice none 0 0, .int .i64 na, .int .i64 nb, .int .i64 ga, .int .i64 gb, .int .i64 se] 65))).frozen? ⟨w.heap.size, 3, none⟩ = false := by first | (with_reducible assumption) | (simp [go_sem]; done) | (simp; done) | ((repeat rw [frozen?_alloc_cells]); first | with_reducible assumption | (simp; done)) | (simp [*]; done)
  have c_w3_0_4 : (((w2.alloc (.cells #[.int .i64 na, .int .i64 nb] 63)).alloc (.cells #[.slice none 0 0, .int .i64 na, .int .i64 nb, .int .i64 ga, .int .i64 gb, .int .i64 se] 65))).cell? ⟨w.heap.size, 4, none⟩ = some (.int .i64 gb) := by first | (with_reducible assumption) | (simp [go_sem]; done) | (simp; done) | (simp [*]; done) | (simp [go_sem, *]; done)
  have f_w3_0_4 : (((w2.alloc (.cells #[.int .i64 na, .int .i64 nb] 63)).alloc (.cells #[.slice none 0 0, .int .i64 na, .int .i64 nb, .int .i64 ga, .int .i64 gb, .int .i64 se] 65))).frozen? ⟨w.heap.size, 4, none⟩ = false := by first | (with_reducible assumption) | (simp [go_sem]; done) | (simp; done) | ((repeat rw [frozen?_alloc_cells]); first | with_reducible assumption | (simp; done)) | (simp [*]; done)
  have c_w3_0_5 : (((w2.alloc (.cells #[.int .i64 na, .int .i64 nb] 63)).alloc (.cells #[.slice none 0 0, .int .i64 na, .int .i64 nb, .int .i64 ga, .int .i64 gb, .int .i64 se] 65))).cell? ⟨w.heap.size, 5, none⟩ = some (.int .i64 se) := by first | (with_reducible assumption) | (simp [go_sem]; done) | (simp; done) | (simp [*]; done) | (simp [go_sem, *]; done)
  have f_w3_0_5 : (((w2.alloc (.cells #[.int .i64 na, .int .i64 nb] 63)).alloc (.cells #[.slice none 0 0, .int .i64 na, .int .i64 nb, .int .i64 ga, .int .i64 gb, .int .i64 se] 65))).frozen? ⟨w.heap.size, 5, none⟩ = false := by first | (with_reducible assumption) | (simp [go_sem]; done) | (simp; done) | ((repeat rw [frozen?_alloc_cells]); first | with_reducible assumption | (simp; done)) | (simp [*]; done)
  have z_w3_1 : w.heap.size + 1 < (((w2.alloc (.cells #[.int .i64 na, .int .i64 nb] 63)).alloc (.cells #[.slice none 0 0, .int .i64 na, .int .i64 nb, .int .i64 ga, .int .i64 gb, .int .i64 se] 65))).heap.size := by first | (with_reducible assumption) | (simp; done) | (simp; omega)
  have c_w3_1_0 : (((w2.alloc (.cells #[.int .i64 na, .int .i64 nb] 63)).alloc (.cells #[.slice none 0 0, .int .i64 na, .int .i64 nb, .int .i64 ga, .int .i64 gb, .int .i64 se] 65))).cell? ⟨w.heap.size + 1, 0, none⟩ = some (.slice none 0 0) := by first | (with_reducible assumption) | (simp [go_sem]; done) | (simp; done) | (simp [*]; done) | (simp [go_sem, *]; done)
  have f_w3_1_0 : (((w2.alloc (.cells #[.int .i64 na, .int .i64 nb] 63)).alloc (.cells #[.slice none 0 0, .int .i64 na, .int .i64 nb, .int .i64 ga, .int .i64 gb, .int .i64 se] 65))).frozen? ⟨w.heap.size + 1, 0, none⟩ = false := by first | (with_reducible assumption) | (simp [go_sem]; done) | (simp; done) | ((repeat rw [frozen?_alloc_cells]); first | with_reducible assumption | (simp; done)) | (simp [*]; done)
  have c_w3_1_1 : (((w2.alloc (.cells #[.int .i64 na, .int .i64 nb] 63)).alloc (.cells #[.slice none 0 0, .int .i64 na, .int .i64 nb, .int .i64 ga, .int .i64 gb, .int .i64 se] 65))).cell? ⟨w.heap.size + 1, 1, none⟩ = some (.int .i64 0) := by first | (with_reducible assumption) | (simp [go_sem]; done) | (simp; done) | (simp [*]; done) | (simp [go_sem, *]; done)
  have f_w3_1_1 : (((w2.alloc (.cells #[.int .i64 na, .int .i64 nb] 63)).alloc (.cells #[.slice none 0 0, .int .i64 na, .int .i64 nb, .int .i64 ga, .int .i64 gb, .int .i64 se] 65))).frozen? ⟨w.heap.size + 1, 1, none⟩ = false := by first | (with_reducible assumption) | (simp [go_sem]; done) | (simp; done) | ((repeat rw [frozen?_alloc_cells]); first | with_reducible assumption | (simp; done)) | (simp [*]; done)
  have c_w3_1_2 : (((w2.alloc (.cells #[.int .i64 na, .int .i64 nb] 63)).alloc (.cells #[.slice none 0 0, .int .i64 na, .int .i64 nb, .int .i64 ga, .int .i64 gb, .int .i64 se] 65))).cell? ⟨w.heap.size + 1, 2, none⟩ = some (.int .i64 0) := by first | (with_reducible assumption) | (simp [go_sem]; done) | (simp; done) | (simp [*]; done) | (simp [go_sem, *]; done)
  have f_w3_1_2 : (((w2.alloc (.cells #[.int .i64 na, .int .i64 nb] 63)).alloc (.cells #[.slice none 0 0, .int .i64 na, .int .i64 nb, .int .i64 ga, .int .i64 gb, .int .i64 se] 65))).frozen? ⟨w.heap.size + 1, 2, none⟩ = false := by first | (with_reducible assumption) | (simp [go_sem]; done) | (simp; done) | ((repeat rw [frozen?_alloc_cells]); first | with_reducible assumption | (simp; done)) | (simp [*]; done)
  have c_w3_1_3 : (((w2.alloc (.cells #[.int .i64 na, .int .i64 nb] 63)).alloc (.cells #[.slice none 0 0, .int .i64 na, .int .i64 nb, .int .i64 ga, .int .i64 gb, .int .i64 se] 65))).cell? ⟨w.heap.size + 1, 3, none⟩ = some (.int .i64 0) := by first | (with_reducible assumption) | (simp [go_sem]; done) | (simp; done) | (simp [*]; done) | (simp [go_sem, *]; done)
  have f_w3_1_3 : (((w2.alloc (.cells #[.int .i64 na, .int .i64 nb] 63)).alloc (.cells #[.slice none 0 0, .int .i64 na, .int .i64 nb, .int .i64 ga, .int .i64 gb, .int .i64 se] 65))).frozen? ⟨w.heap.size + 1, 3, none⟩ = false := by first | (with_reducible assumption) | (simp [go_sem]; done) | (simp; done) | ((repeat rw [frozen?_alloc_cells]); first | with_reducible assumption | (simp; done)) | (simp [*]; done)
  have c_w3_1_4 : (((w2.alloc (.cells #[.int .i64 na, .int .i64 nb] 63)).alloc (.cells #[.slice none 0 0, .int .i64 na, .int .i64 nb, .int .i64 ga, .int .i64 gb, .int .i64 se] 65))).cell? ⟨w.heap.size + 1, 4, none⟩ = some (.int .i64 0) := by first | (with_reducible assumption) | (simp [go_sem]; done) | (simp; done) | (simp [*]; done) | (simp [go_sem, *]; done)
  have f_w3_1_4 : (((w2.alloc (.cells #[.int .i64 na, .int .i64 nb] 63)).alloc (.cells #[.slice none 0 0, .int .i64 na, .int .i64 nb, .int .i64 ga, .int .i64 gb, .int .i64 se] 65))).frozen? ⟨w.heap.size + 1, 4, none⟩ = false := by first | (with_reducible assumption) | (simp [go_sem]; done) | (simp; done) | ((repeat rw [frozen?_alloc_cells]); first | with_reducible assumption | (simp; done)) | (simp [*]; done)
  have c_w3_1_5 : (((w2.alloc (.cells #[.int .i64 na, .int .i64 nb] 63)).alloc (.cells #[.slice none 0 0, .int .i64 na, .int .i64 nb, .int .i64 ga, .int .i64 gb, .int .i64 se] 65))).cell? ⟨w.heap.size + 1, 5, none⟩ = some (.int .i64 0) := by first | (with_reducible assumption) | (simp [go_sem]; done) | (simp; done) | (simp [*]; done) | (simp [go_sem, *]; done)
  have f_w3_1_5 : (((w2.alloc (.cells #[.int .i64 na, .int .i64 nb] 63)).alloc (.cells #[.slice none 0 0, .int .i64 na, .int .i64 nb, .int .i64 ga, .int .i64 gb, .int .i64 se] 65))).frozen? ⟨w.heap.size + 1, 5, none⟩ = false := by first | (with_reducible assumption) | (simp [go_sem]; done) | (simp; done) | ((repeat rw [frozen?_alloc_cells]); first | with_reducible assumption | (simp; done)) | (simp [*]; done)
  have z_w3_2 : w2.heap.size + 1 < (((w2.alloc (.cells #[.int .i64 na, .int .i64 nb] 63)).alloc (.cells #[.slice none 0 0, .int .i64 na, .int .i64 nb, .int .i64 ga, .int .i64 gb, .int .i64 se] 65))).heap.size := by first | (with_reducible assumption) | (simp; done) | (simp; omega)
  have c_w3_2_0 : (((w2.alloc (.cells #[.int .i64 na, .int .i64 nb] 63)).alloc (.cells #[.slice none 0 0, .int .i64 na, .int .i64 nb, .int .i64 ga, .int .i64 gb, .int .i64 se] 65))).cell? ⟨w2.heap.size + 1, 0, none⟩ = some (.slice none 0 0) := by first | (with_reducible assumption) | (simp [go_sem]; done) | (simp; done) | (simp [*]; done) | (simp [go_sem, *]; done)
  have f_w3_2_0 : (((w2.alloc (.cells #[.int .i64 na, .int .i64 nb] 63)).alloc (.cells #[.slice none 0 0, .int .i64 na, .int .i64 nb, .int .i64 ga, .int .i64 gb, .int .i64 se] 65))).frozen? ⟨w2.heap.size + 1, 0, none⟩ = false := by first | (with_reducible assumption) | (simp [go_sem]; done) | (simp; done) | ((repeat rw [frozen?_alloc_cells]); first | with_reducible assumption | (simp; done)) | (simp [*]; done)
  have c_w3_2_1 : (((w2.alloc (.cells #[.int .i64 na, .int .i64 nb] 63)).alloc (.cells #[.slice none 0 0, .int .i64 na, .int .i64 nb, .int .i64 ga, .int .i64 gb, .int .i64 se] 65))).cell? ⟨w2.heap.size + 1, 1, none⟩ = some (.int .i64 na) := by first | (with_reducible assumption) | (simp [go_sem]; done) | (simp; done) | (simp [*]; done) | (simp [go_sem, *]; done)
  have f_w3_2_1 : (((w2.alloc (.cells #[.int .i64 na, .int .i64 nb] 63)).alloc (.cells #[.slice none 0 0, .int .i64 na, .int .i64 nb, .int .i64 ga, .int .i64 gb, .int .i64 se] 65))).frozen? ⟨w2.heap.size + 1, 1, none⟩ = false := by first | (with_reducible assumption) | (simp [go_sem]; done) | (simp; done) | ((repeat rw [frozen?_alloc_cells]); first | with_reducible assumption | (simp; done)) | (simp [*]; done)
  have c_w3_2_2 : (((w2.alloc (.cells #[.int .i64 na, .int .i64 nb] 63)).alloc (.cells #[.slice none 0 0, .int .i64 na, .int .i64 nb, .int .i64 ga, .int .i64 gb, .int .i64 se] 65))).cell? ⟨w2.heap.size + 1, 2, none⟩ = some (.int .i64 nb) := by first | (with_reducible assumption) | (simp [go_sem]; done) | (simp; done) | (simp [*]; done) | (simp [go_sem, *]; done)
  have f_w3_2_2 : (((w2.alloc (.cells #[.int .i64 na, .int .i64 nb] 63)).alloc (.cells #[.slice none 0 0, .int .i64 na, .int .i64 nb, .int .i64 ga, .int .i64 gb, .int .i64 se] 65))).frozen? ⟨w2.heap.size + 1, 2, none⟩ = false := by first | (with_reducible assumption) | (simp [go_sem]; done) | (simp; done) | ((repeat rw [frozen?_alloc_cells]); first | with_reducible assumption | (simp; done)) | (simp [*]; done)
  have c_w3_2_3 : (((w2.alloc (.cells #[.int .i64 na, .int .i64 nb] 63)).alloc (.cells #[.slice none 0 0, .int .i64 na, .int .i64 nb, .int .i64 ga, .int .i64 gb, .int .i64 se] 65))).cell? ⟨w2.heap.size + 1, 3, none⟩ = some (.int .i64 ga) := by first | (with_reducible assumption) | (simp [go_sem]; done) | (simp; done) | (simp [*]; done) | (simp [go_sem, *]; done)
  have f_w3_2_3 : (((w2.alloc (.cells #[.int .i64 na, .int .i64 nb] 63)).alloc (.cells #[.slice none 0 0, .int .i64 na, .int .i64 nb, .int .i64 ga, .int .i64 gb, .int .i64 se] 65))).frozen? ⟨w2.heap.size + 1, 3, none⟩ = false := by first | (with_reducible assumption) | (simp [go_sem]; done) | (simp; done) | ((repeat rw [frozen?_alloc_cells]); first | with_reducible assumption | (simp; done)) | (simp [*]; done)
  have c_w3_2_4 : (((w2.alloc (.cells #[.int .i64 na, .int .i64 nb] 63)).alloc (.cells #[.slice none 0 0, .int .i64 na, .int .i64 nb, .int .i64 ga, .int .i64 gb, .int .i64 se] 65))).cell? ⟨w2.heap.size + 1, 4, none⟩ = some (.int .i64 gb) := by first | (with_reducible assumption) | (simp [go_sem]; done) | (simp; done) | (simp [*]; done) | (simp [go_sem, *]; done)
  have f_w3_2_4 : (((w2.alloc (.cells #[.int .i64 na, .int .i64 nb] 63)).alloc (.cells #[.slice none 0 0, .int .i64 na, .int .i64 nb, .int .i64 ga, .int .i64 gb, .int .i64 se] 65))).frozen? ⟨w2.heap.size + 1, 4, none⟩ = false := by first | (with_reducible assumption) | (simp [go_sem]; done) | (simp; done) | ((repeat rw [frozen?_alloc_cells]); first | with_reducible assumption | (simp; done)) | (simp [*]; done)
  have c_w3_2_5 : (((w2.alloc (.cells #[.int .i64 na, .int .i64 nb] 63)).alloc (.cells #[.slice none 0 0, .int .i64 na, .int .i64 nb, .int .i64 ga, .int .i64 gb, .int .i64 se] 65))).cell? ⟨w2.heap.size + 1, 5, none⟩ = some (.int .i64 se) := by first | (with_reducible assumption) | (simp [go_sem]; done) | (simp; done) | (simp [*]; done) | (simp [go_sem, *]; done)
  have f_w3_2_5 : (((w2.alloc (.cells #[.int .i64 na, .int .i64 nb] 63)).alloc (.cells #[.slice none 0 0, .int .i64 na, .int .i64 nb, .int .i64 ga, .int .i64 gb, .int .i64 se] 65))).frozen? ⟨w2.heap.size + 1, 5, none⟩ = false := by first | (with_reducible assumption) | (simp [go_sem]; done) | (simp; done) | ((repeat rw [frozen?_alloc_cells]); first | with_reducible assumption | (simp; done)) | (simp [*]; done)
  generalize ((w2.alloc (.cells #[.int .i64 na, .int .i64 nb] 63)).alloc (.cells #[.slice none 0 0, .int .i64 na, .int .i64 nb, .int .i64 ga, .int .i64 gb, .int .i64 se] 65)) = w3 at *
  clear c_w2_0_0 f_w2_0_0 c_w2_0_1 f_w2_0_1 c_w2_0_2 f_w2_0_2 c_w2_0_3 f_w2_0_3 c_w2_0_4 f_w2_0_4 c_w2_0_5 f_w2_0_5 c_w2_1_0 f_w2_1_0 c_w2_1_1 f_w2_1_1 c_w2_1_2 f_w2_1_2 c_w2_1_3 f_w2_1_3 c_w2_1_4 f_w2_1_4 c_w2_1_5 f_w2_1_5 z_w2_0 z_w2_1 B_w2
  have hne : w2.heap.size + 1 ≠ w.heap.size ∧ w2.heap.size + 1 ≠ w.heap.size + 1 ∧ w.heap.size ≠ w2.heap.size + 1 ∧ w.heap.size + 1 ≠ w2.heap.size + 1 := by omega
  go_loopw [41] (fun i wr => ∃ k : Nat, ∃ v : Value, k ≤ n ∧ i = .int .i64 k ∧ Below (w2.heap.size + 1) w3 wr ∧ (wr.cell? ⟨w2.heap.size + 1, 0, none⟩ = some v ∧ wr.cell? ⟨w2.heap.size + 1, 1, none⟩ = some (.int .i64 na) ∧ wr.cell? ⟨w2.heap.size + 1, 2, none⟩ = some (.int .i64 nb) ∧ wr.cell? ⟨w2.heap.size + 1, 3, none⟩ = some (.int .i64 ga) ∧ wr.cell? ⟨w2.heap.size + 1, 4, none⟩ = some (.int .i64 gb) ∧ wr.cell? ⟨w2.heap.size + 1, 5, none⟩ = some (.int .i64 se)) ∧ (∀ j, j < 6 → wr.frozen? ⟨w2.heap.size + 1, j, none⟩ = false) ∧ wr.ownsRow (w2.heap.size + 2) 75 3 v k (rcells (pl.take k))) (fun i _ => n - (intOf i).toNat)
  case atStart => exact ⟨0, _, Nat.zero_le _, rfl, Below.refl _ _, ⟨c_w3_2_0, c_w3_2_1, c_w3_2_2, c_w3_2_3, c_w3_2_4, c_w3_2_5⟩, (by intro j hj; match j, hj with | 0, _ => exact f_w3_2_0 | 1, _ => exact f_w3_2_1 | 2, _ => exact f_w3_2_2 | 3, _ => exact f_w3_2_3 | 4, _ => exact f_w3_2_4 | 5, _ => exact f_w3_2_5), World.ownsRow_nil _ _ _ _⟩
  case round =>
    obtain ⟨k, v, hk, rfl, hbel, ⟨b0, b1, b2, b3, b4, b5⟩, hfz, hown⟩ := hrel
    have hsz := hbel.size
    have hB : Below w.heap.size w wr := B_w3.trans (hbel.mono (by omega))
    have hf0 := hfz 0 (by omega)
    have a0 := (hbel.cell (p := ⟨w.heap.size, 0, none⟩) (by simp; omega)).trans c_w3_0_0
    have a1 := (hbel.cell (p := ⟨w.heap.size, 1, none⟩) (by simp; omega)).trans c_w3_0_1
    have a2 := (hbel.cell (p := ⟨w.heap.size, 2, none⟩) (by simp; omega)).trans c_w3_0_2
    have e0 := (hbel.cell (p := ⟨w.heap.size + 1, 0, none⟩) (by simp; omega)).trans c_w3_1_0
    by_cases hlt2 : k < n
    · have hlt' : k < l.length := by rw [HN.out]; exact hlt2
      obtain ⟨b, off, hb0, hb, hc1, hc2, hc3⟩ := Reads.rcell (HR.out) k hlt'
      obtain rfl : ad = ⟨b, off, none⟩ := by simpa using hb0
      have d1 := (hB.cell (p := ⟨b, off + k * 3, none⟩) hb).trans hc1
      have d2 := (hB.cell (p := ⟨b, off + k * 3 + 1, none⟩) hb).trans hc2
      have d3 := (hB.cell (p := ⟨b, off + k * 3 + 2, none⟩) hb).trans hc3
      clear hc1 hc2 hc3 hb0
      obtain ⟨q, hq1, hq2, hq3, hq4⟩ := HG.out k l[k] (List.getElem?_eq_getElem hlt')
      generalize l[k] = p at *
      obtain ⟨x, y, z⟩ := p
      have hnb : v.ownBlock ≠ some wr.heap.size := fun h => by have := (hown.lt _ h).2; omega
      have hzz : w.heap.size < wr.heap.size ∧ w.heap.size + 1 < wr.heap.size ∧ w2.heap.size + 1 < wr.heap.size ∧ b < wr.heap.size := by omega
      obtain ⟨hzz0, hzz1, hzz2, hzz3⟩ := hzz
      have hnb2 : w2.heap.size + 1 ≠ wr.heap.size ∧ w.heap.size ≠ wr.heap.size := by omega
      have hE2 : ((k : Int) == (n : Int) - 1) = decide (k + 1 = n) := by rw [Bool.eq_iff_iff]; simp; omega
      have hE3 : ((pa : Int) == (n : Int) - 2) = decide (pa + 2 = n) := by rw [Bool.eq_iff_iff]; simp; omega
      by_cases h1 : k = pa
      · have hqv : q = (word, pb, false) := hq2 h1
        subst hqv
        have hE1 : ((k : Int) == (pa : Int)) = true := by rw [h1]; simp
        have hd2 : decide (k + 1 = n) = false := by simp; omega
        clear h1
        have HQ := Lib.hid hq1
        clear hq1 hq2 hq3 hq4
        go_wp2_with (at_builtin; refine appR_cell rfl _ _ rfl (w2.heap.size + 2) v k (rcells (pl.take k)) rfl (by (repeat (first | refine World.ownsRow.alloc ?_ _ | refine ownsRow_setCell_other ?_ hnb _)); exact hown) _ 1 [(word, pb, false)] rfl (Reads.litAt _ _ 3 1 [.int .u64 word, .int .i64 pb, .bool false] rfl (by decide) _ (by simp)) (by omega) (by simp; omega) ?_; intro v2 w4 hown4 _ _ hb4; obtain ⟨g4, cap4, rfl, _, _⟩ := hown4.form (by omega); have hB4 : Below (w2.heap.size + 1) w3 w4 := ((hbel.alloc (by omega) _).alloc (by simp; omega) _).trans (hb4.mono (by omega)); have hk4 : ∀ j u, wr.cell? ⟨w2.heap.size + 1, j, none⟩ = some u → w4.cell? ⟨w2.heap.size + 1, j, none⟩ = some u := (fun j u h => (hb4.cell (by simp)).trans (by (repeat rw [World.cell?_alloc_lt _ _ _ (by first | (simp; done) | (simp; omega))]); exact h)); have hf4 : ∀ j, j < 6 → w4.frozen? ⟨w2.heap.size + 1, j, none⟩ = false := (fun j h => (hb4.frozen (by simp)).trans (by (repeat rw [frozen?_alloc_cells]); exact hfz j h)); have b40 := hk4 0 _ b0; have f40 := hf4 0 (by omega); clear hb4)
        have HK4 := Lib.hid hk4
        go_roundw
        case rel => exact ⟨k + 1, .slice (some ⟨g4, 0, none⟩) (k + 1) cap4, by omega, by go_num, hB4.setCell (by simp) _, ⟨by simp [go_sem, b40], (World.cell?_setCell_other _ _ _ _ (by simp)).trans (HK4.out 1 _ b1), (World.cell?_setCell_other _ _ _ _ (by simp)).trans (HK4.out 2 _ b2), (World.cell?_setCell_other _ _ _ _ (by simp)).trans (HK4.out 3 _ b3), (World.cell?_setCell_other _ _ _ _ (by simp)).trans (HK4.out 4 _ b4), (World.cell?_setCell_other _ _ _ _ (by simp)).trans (HK4.out 5 _ b5)⟩, fun j hj => (World.frozen?_setCell _ _ _ _).trans (hf4 j hj), ownsRow_setCell_below (by rw [HQ.out]; exact hown4) (by simp) _⟩
        case measure => simp [intOf]; omega
      · have hE1 : ((k : Int) == (pa : Int)) = false := by simp; omega
        by_cases h2 : k + 1 = n
        · have hd2 : decide (k + 1 = n) = true := by simpa using h2
          by_cases h3 : pa + 2 = n
          · have hqv : q = (x, pb, z) := hq3 h1 h2 h3
            subst hqv
            have hd3 : decide (pa + 2 = n) = true := by simpa using h3
            clear h1 h2 h3
            have HQ := Lib.hid hq1
            clear hq1 hq2 hq3 hq4
            go_wp2_with (at_builtin; refine appR_cell rfl _ _ rfl (w2.heap.size + 2) v k (rcells (pl.take k)) rfl (by (repeat (first | refine World.ownsRow.alloc ?_ _ | refine ownsRow_setCell_other ?_ hnb _)); exact hown) _ 1 [(x, pb, z)] rfl (Reads.litAt _ _ 3 1 [.int .u64 x, .int .i64 pb, .bool z] rfl (by decide) _ (by simp)) (by omega) (by simp; omega) ?_; intro v2 w4 hown4 _ _ hb4; obtain ⟨g4, cap4, rfl, _, _⟩ := hown4.form (by omega); have hB4 : Below (w2.heap.size + 1) w3 w4 := ((hbel.alloc (by omega) _).alloc (by simp; omega) _).trans (hb4.mono (by omega)); have hk4 : ∀ j u, wr.cell? ⟨w2.heap.size + 1, j, none⟩ = some u → w4.cell? ⟨w2.heap.size + 1, j, none⟩ = some u := (fun j u h => (hb4.cell (by simp)).trans (by (repeat rw [World.cell?_alloc_lt _ _ _ (by first | (simp; done) | (simp; omega))]); exact h)); have hf4 : ∀ j, j < 6 → w4.frozen? ⟨w2.heap.size + 1, j, none⟩ = false := (fun j h => (hb4.frozen (by simp)).trans (by (repeat rw [frozen?_alloc_cells]); exact hfz j h)); have b40 := hk4 0 _ b0; have f40 := hf4 0 (by omega); clear hb4)
            have HK4 := Lib.hid hk4
            go_roundw
            case rel => exact ⟨k + 1, .slice (some ⟨g4, 0, none⟩) (k + 1) cap4, by omega, by go_num, hB4.setCell (by simp) _, ⟨by simp [go_sem, b40], (World.cell?_setCell_other _ _ _ _ (by simp)).trans (HK4.out 1 _ b1), (World.cell?_setCell_other _ _ _ _ (by simp)).trans (HK4.out 2 _ b2), (World.cell?_setCell_other _ _ _ _ (by simp)).trans (HK4.out 3 _ b3), (World.cell?_setCell_other _ _ _ _ (by simp)).trans (HK4.out 4 _ b4), (World.cell?_setCell_other _ _ _ _ (by simp)).trans (HK4.out 5 _ b5)⟩, fun j hj => (World.frozen?_setCell _ _ _ _).trans (hf4 j hj), ownsRow_setCell_below (by rw [HQ.out]; exact hown4) (by simp) _⟩
            case measure => simp [intOf]; omega
          · have hqv : q = (x, y, z) := hq4 h1 (fun h => h3 h.2)
            subst hqv
            have hd3 : decide (pa + 2 = n) = false := by simpa using h3
            clear h1 h2 h3
            have HQ := Lib.hid hq1
            clear hq1 hq2 hq3 hq4
            go_wp2_with (at_builtin; refine appR_cell rfl _ _ rfl (w2.heap.size + 2) v k (rcells (pl.take k)) rfl (by (repeat (first | refine World.ownsRow.alloc ?_ _ | refine ownsRow_setCell_other ?_ hnb _)); exact hown) _ 1 [(x, y, z)] rfl (Reads.litAt _ _ 3 1 [.int .u64 x, .int .i64 y, .bool z] rfl (by decide) _ (by simp)) (by omega) (by simp; omega) ?_; intro v2 w4 hown4 _ _ hb4; obtain ⟨g4, cap4, rfl, _, _⟩ := hown4.form (by omega); have hB4 : Below (w2.heap.size + 1) w3 w4 := ((hbel.alloc (by omega) _).alloc (by simp; omega) _).trans (hb4.mono (by omega)); have hk4 : ∀ j u, wr.cell? ⟨w2.heap.size + 1, j, none⟩ = some u → w4.cell? ⟨w2.heap.size + 1, j, none⟩ = some u := (fun j u h => (hb4.cell (by simp)).trans (by (repeat rw [World.cell?_alloc_lt _ _ _ (by first | (simp; done) | (simp; omega))]); exact h)); have hf4 : ∀ j, j < 6 → w4.frozen? ⟨w2.heap.size + 1, j, none⟩ = false := (fun j h => (hb4.frozen (by simp)).trans (by (repeat rw [frozen?_alloc_cells]); exact hfz j h)); have b40 := hk4 0 _ b0; have f40 := hf4 0 (by omega); clear hb4)
            have HK4 := Lib.hid hk4
            go_roundw
            case rel => exact ⟨k + 1, .slice (some ⟨g4, 0, none⟩) (k + 1) cap4, by omega, by go_num, hB4.setCell (by simp) _, ⟨by simp [go_sem, b40], (World.cell?_setCell_other _ _ _ _ (by simp)).trans (HK4.out 1 _ b1), (World.cell?_setCell_other _ _ _ _ (by simp)).trans (HK4.out 2 _ b2), (World.cell?_setCell_other _ _ _ _ (by simp)).trans (HK4.out 3 _ b3), (World.cell?_setCell_other _ _ _ _ (by simp)).trans (HK4.out 4 _ b4), (World.cell?_setCell_other _ _ _ _ (by simp)).trans (HK4.out 5 _ b5)⟩, fun j hj => (World.frozen?_setCell _ _ _ _).trans (hf4 j hj), ownsRow_setCell_below (by rw [HQ.out]; exact hown4) (by simp) _⟩
            case measure => simp [intOf]; omega
        · have hqv : q = (x, y, z) := hq4 h1 (fun h => h2 h.1)
          subst hqv
          have hd2 : decide (k + 1 = n) = false := by simpa using h2
          clear h1 h2
          have HQ := Lib.hid hq1
          clear hq1 hq2 hq3 hq4
          go_wp2_with (at_builtin; refine appR_cell rfl _ _ rfl (w2.heap.size + 2) v k (rcells (pl.take k)) rfl (by (repeat (first | refine World.ownsRow.alloc ?_ _ | refine ownsRow_setCell_other ?_ hnb _)); exact hown) _ 1 [(x, y, z)] rfl (Reads.litAt _ _ 3 1 [.int .u64 x, .int .i64 y, .bool z] rfl (by decide) _ (by simp)) (by omega) (by simp; omega) ?_; intro v2 w4 hown4 _ _ hb4; obtain ⟨g4, cap4, rfl, _, _⟩ := hown4.form (by omega); have hB4 : Below (w2.heap.size + 1) w3 w4 := ((hbel.alloc (by omega) _).alloc (by simp; omega) _).trans (hb4.mono (by omega)); have hk4 : ∀ j u, wr.cell? ⟨w2.heap.size + 1, j, none⟩ = some u → w4.cell? ⟨w2.heap.size + 1, j, none⟩ = some u := (fun j u h => (hb4.cell (by simp)).trans (by (repeat rw [World.cell?_alloc_lt _ _ _ (by first | (simp; done) | (simp; omega))]); exact h)); have hf4 : ∀ j, j < 6 → w4.frozen? ⟨w2.heap.size + 1, j, none⟩ = false := (fun j h => (hb4.frozen (by simp)).trans (by (repeat rw [frozen?_alloc_cells]); exact hfz j h)); have b40 := hk4 0 _ b0; have f40 := hf4 0 (by omega); clear hb4)
          have HK4 := Lib.hid hk4
          go_roundw
          case rel => exact ⟨k + 1, .slice (some ⟨g4, 0, none⟩) (k + 1) cap4, by omega, by go_num, hB4.setCell (by simp) _, ⟨by simp [go_sem, b40], (World.cell?_setCell_other _ _ _ _ (by simp)).trans (HK4.out 1 _ b1), (World.cell?_setCell_other _ _ _ _ (by simp)).trans (HK4.out 2 _ b2), (World.cell?_setCell_other _ _ _ _ (by simp)).trans (HK4.out 3 _ b3), (World.cell?_setCell_other _ _ _ _ (by simp)).trans (HK4.out 4 _ b4), (World.cell?_setCell_other _ _ _ _ (by simp)).trans (HK4.out 5 _ b5)⟩, fun j hj => (World.frozen?_setCell _ _ _ _).trans (hf4 j hj), ownsRow_setCell_below (by rw [HQ.out]; exact hown4) (by simp) _⟩
          case measure => simp [intOf]; omega
    · obtain rfl : k = n := by omega
      obtain ⟨g4, cap4, rfl, _, _⟩ := hown.form (by omega)
      have e1 := (hbel.cell (p := ⟨w.heap.size + 1, 1, none⟩) (by simp; omega)).trans c_w3_1_1
      have e2 := (hbel.cell (p := ⟨w.heap.size + 1, 2, none⟩) (by simp; omega)).trans c_w3_1_2
      have e3 := (hbel.cell (p := ⟨w.heap.size + 1, 3, none⟩) (by simp; omega)).trans c_w3_1_3
      have e4 := (hbel.cell (p := ⟨w.heap.size + 1, 4, none⟩) (by simp; omega)).trans c_w3_1_4
      have e5 := (hbel.cell (p := ⟨w.heap.size + 1, 5, none⟩) (by simp; omega)).trans c_w3_1_5
      have ef0 := (hbel.frozen (p := ⟨w.heap.size + 1, 0, none⟩) (by simp; omega)).trans f_w3_1_0
      have ef1 := (hbel.frozen (p := ⟨w.heap.size + 1, 1, none⟩) (by simp; omega)).trans f_w3_1_1
      have ef2 := (hbel.frozen (p := ⟨w.heap.size + 1, 2, none⟩) (by simp; omega)).trans f_w3_1_2
      have ef3 := (hbel.frozen (p := ⟨w.heap.size + 1, 3, none⟩) (by simp; omega)).trans f_w3_1_3
      have ef4 := (hbel.frozen (p := ⟨w.heap.size + 1, 4, none⟩) (by simp; omega)).trans f_w3_1_4
      have ef5 := (hbel.frozen (p := ⟨w.heap.size + 1, 5, none⟩) (by simp; omega)).trans f_w3_1_5
      have hpl : Hid (pl.take k = pl) := Lib.hid (List.take_of_length_le (by rw [HPL.out]; exact Nat.le_refl _))
      have hzz : w.heap.size < wr.heap.size ∧ w.heap.size + 1 < wr.heap.size ∧ w2.heap.size + 1 < wr.heap.size := by omega
      obtain ⟨hzz0, hzz1, hzz2⟩ := hzz
      have HO := Lib.hid hown
      clear hown hfz
      repeat (first | go_values | go_skip | go_guarded | go_step | go_upon | (simp only []; go_at_K) | simp only [])
      refine bodyPost_ret (v := .tuple #[.agg #[.slice (some ⟨g4, 0, none⟩) k cap4, .int .i64 na, .int .i64 nb, .int .i64 ga, .int .i64 gb, .int .i64 se], .int .i64 0]) (by simp [results, Try.results35, go_sem, b0, b1, b2, b3, b4, b5, e0, e1, e2, e3, e4, e5]) rfl ⟨g4, cap4, rfl, ?_, ?_⟩
      · refine own_base (B := w2.heap.size + 2) ?_ (by omega)
        repeat (refine ownsRow_setCell_below ?_ (by first | (simp; done) | (simp; omega)) _)
        have h := HO.out
        rw [hpl.out] at h
        exact h
      · have hz := hB.size
        go_grown
end Go.Proofs.Ytkhfbleldchnpaa
