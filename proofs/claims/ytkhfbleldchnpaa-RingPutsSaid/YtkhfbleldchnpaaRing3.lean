/- Contracts: advance, copied, Put (ring). -/
import Derived.Test.YtkhfbleldchnpaaRing2
import Derived.Lib.SliceRun
namespace Go.Proofs.Ytkhfbleldchnpaa
open Go.RowKit
set_option linter.unusedVariables false
set_option maxRecDepth 100000

def advA (at' : Int) (n : Nat) : Int := if at' + 1 = (n : Int) - 1 then 0 else at' + 1
def advB (at' b : Int) (n : Nat) : Int := if at' + 1 = (n : Int) - 1 then 1 - b else b
set_option maxHeartbeats 400000 in
theorem advance_any (at' b : Int) (n : Nat) (hn : 3 ≤ n ∧ n ≤ 64) (h1 : 0 ≤ at' ∧ at' < (n : Int) - 1) (h2 : b = 0 ∨ b = 1) (w : World) :
    Calls Try.prog 76 #[.agg #[.int .i64 at', .int .i64 b], .int .i64 n] w fun e w' => e = .returned (.agg #[.int .i64 (advA at' n), .int .i64 (advB at' b n)]) ∧ Below w.heap.size w w' := by
  unfold advA advB
  by_cases h : at' + 1 = (n : Int) - 1
  · rw [if_pos h, if_pos h]
    have hq : (at' + 1 == (n : Int) - 1) = true := by simpa using h
    have hb : 0 ≤ 1 - b ∧ 1 - b ≤ 1 := by omega
    have H := Lib.hid h
    clear h
    go_enter Try.func76, Try.ntmps76
    go_wp2
    refine bodyPost_ret (v := .agg #[.int .i64 0, .int .i64 (1 - b)]) (by simp [results, Try.results76, go_sem]) rfl ⟨rfl, ?_⟩
    go_grown
  · rw [if_neg h, if_neg h]
    have hq : (at' + 1 == (n : Int) - 1) = false := by simpa using h
    go_enter Try.func76, Try.ntmps76
    go_wp2
    refine bodyPost_ret (v := .agg #[.int .i64 (at' + 1), .int .i64 b]) (by simp [results, Try.results76, go_sem]) rfl ⟨rfl, ?_⟩
    go_grown
set_option maxHeartbeats 400000 in
theorem goneOn_any (at' b : Int) (n : Nat) (hn : 3 ≤ n ∧ n ≤ 64) (h1 : 0 ≤ at' ∧ at' < (n : Int) - 1) (h2 : b = 0 ∨ b = 1) (w : World) :
    Calls Try.prog 41 #[.agg #[.int .i64 at', .int .i64 b], .int .i64 ((n : Int) - 1)] w fun e w' => e = .returned (.agg #[.int .i64 (advA at' n), .int .i64 (advB at' b n)]) ∧ Below w.heap.size w w' := by
  unfold advA advB
  by_cases h : at' + 1 = (n : Int) - 1
  · rw [if_pos h, if_pos h]
    have hq : ¬ (at' + 1 < (n : Int) - 1) := by omega
    have hb : 0 ≤ 1 - b ∧ 1 - b ≤ 1 := by omega
    have H := Lib.hid h
    clear h
    go_enter Try.func41, Try.ntmps41
    go_wp2
    refine bodyPost_ret (v := .agg #[.int .i64 0, .int .i64 (1 - b)]) (by simp [results, Try.results41, go_sem]) rfl ⟨rfl, ?_⟩
    go_grown
  · rw [if_neg h, if_neg h]
    have hq : at' + 1 < (n : Int) - 1 := by omega
    go_enter Try.func41, Try.ntmps41
    go_wp2
    refine bodyPost_ret (v := .agg #[.int .i64 (at' + 1), .int .i64 b]) (by simp [results, Try.results41, go_sem]) rfl ⟨rfl, ?_⟩
    go_grown
theorem info_cell : (Try.prog.info? 75).map (fun i => (i.zero, i.size, i.bytes)) = some (some (.agg #[.int .u64 0, .int .i64 0, .bool false]), 3, 24) := by kernel_rfl
theorem rcells_one (l : List RC) : ∀ u ∈ rcells l, u.oneCell' = true := by
  intro u hu
  simp only [rcells, List.mem_flatMap] at hu
  obtain ⟨p, _, hp⟩ := hu
  simp at hp
  rcases hp with rfl | rfl | rfl <;> rfl
/-- an append of cells -/
theorem appR_cell {w : World} {ops : Array Oper} {rest : List Oper} {o : Oper} {a : Act} {Q : Exit → Act → World → Prop} (hgd : o.guard = none) (s x : Operand)
    (ho : o.op = .call { callee := .builtin .append, args := #[s, x], argTypes := #[61, 61] })
    (B : Nat) (v : Value) (n : Nat) (xs : List Value) (hs : a.eval s = v) (hown : w.ownsRow B 75 3 v n xs) (xv : Value) (m : Nat) (us : List RC) (hx : a.eval x = xv) (hr : Reads w 3 xv m (rcells us))
    (hnm : n + m ≤ 17179869184) (hB : B ≤ w.heap.size)
    (h : ∀ v' w', w'.ownsRow B 75 3 v' (n + m) (xs ++ rcells us) → w.grownBy w' v.ownBlock → (v'.ownBlock = v.ownBlock ∨ ∃ g, v'.ownBlock = some g ∧ w.heap.size ≤ g) → Below B w w' → wpList Try.prog ops Q rest (a.put o.dst v') w') :
    wpList Try.prog ops Q (o :: rest) a w :=
  wpList_appR hgd s x _ ho B _ _ 3 24 Try.underlying61 info_cell rfl (by decide) (by decide) v n xs hs hown xv m _ hx hr (rcells_one us) hnm hB h
set_option maxHeartbeats 1000000 in
theorem cloneC_any (ad : Addr) (cap : Nat) (l : List RC) (w : World) (hr : Reads w 3 (.slice (some ad) l.length cap) l.length (rcells l)) (hl64 : l.length ≤ 1000000) :
    Calls Try.prog 95 #[.slice (some ad) l.length cap] w fun e w' => ∃ v, e = .returned v ∧ w'.ownsRow w.heap.size 75 3 v l.length (rcells l) ∧ Below w.heap.size w w' := by
  have HR := Lib.hid hr
  have hq : ∀ w : World, (binOp .eql 61 (.slice (some ad) l.length cap) (.slice none 0 0)).run Try.prog w = .ok (.bool false) w := fun w => Lib.run_eql_slice_nil w _ _ _ _ _ _ _ Try.underlying61
  clear hr
  have hown0 : (w.alloc (.cells #[] 75)).ownsRow w.heap.size 75 3 (.slice (some ⟨w.heap.size, 0, none⟩) 0 0) 0 [] := World.ownsRow_lit w #[] 0 (Nat.le_refl _) (Nat.zero_le _) rfl
  go_enter Try.func95, Try.ntmps95
  go_wp2_with (at_builtin; refine appR_cell rfl _ _ rfl w.heap.size _ 0 _ rfl hown0 _ l.length l rfl (HR.out.alloc _) (by omega) (by simp) ?_; intro v2 w2 hown2 _ _ hb2)
  go_ret
  refine ⟨_, rfl, ?_, ((Below.refl _ _).alloc (Nat.le_refl _) _).trans hb2⟩
  simpa using hown2
theorem own_base {w : World} {B B' : Nat} {e : TypeId} {size : Nat} {v : Value} {n : Nat} {xs : List Value} (h : w.ownsRow B e size v n xs) (hB : B' ≤ B) : w.ownsRow B' e size v n xs := by
  refine ⟨h.1, ?_⟩
  rcases h.2 with h' | ⟨g, cap, cur, h1, h2, h3⟩
  · exact .inl h'
  · exact .inr ⟨g, cap, cur, h1, Nat.le_trans hB h2, h3⟩
set_option maxHeartbeats 1000000 in
theorem copied_any (pa pb ga gb se : Int) (ad : Addr) (cap : Nat) (l : List RC) (w : World) (hr : Reads w 3 (.slice (some ad) l.length cap) l.length (rcells l)) (hl64 : l.length ≤ 1000000) (hl0 : 0 < l.length) :
    Calls Try.prog 77 #[.agg #[.slice (some ad) l.length cap, .int .i64 pa, .int .i64 pb, .int .i64 ga, .int .i64 gb, .int .i64 se]] w fun e w' => ∃ g cap', e = .returned (.agg #[.slice (some ⟨g, 0, none⟩) l.length cap', .int .i64 pa, .int .i64 pb, .int .i64 ga, .int .i64 gb, .int .i64 se]) ∧ w'.ownsRow w.heap.size 75 3 (.slice (some ⟨g, 0, none⟩) l.length cap') l.length (rcells l) ∧ Below w.heap.size w w' := by
  have HC := Lib.hid (fun w' (hb : Below w.heap.size w w') => cloneC_any ad cap l w' (hr.below hb (Nat.le_refl _)) hl64)
  go_enter Try.func77, Try.ntmps77
  go_wp2_with fail
  refine (HC.out _ (by go_grown)).mono ?_
  rintro r_w1 w1 ⟨v, rfl, hown, hb_w1⟩
  have B_w1 : Below w.heap.size w w1 := by first | exact hb_w1 | exact ((Below.refl _ _).alloc (Nat.le_refl _) _).trans (hb_w1.mono (by simp)) | exact (((Below.refl _ _).alloc (Nat.le_refl _) _).alloc (by simp) _).trans (hb_w1.mono (by simp; omega)) | exact Below.trans (by go_grown) (hb_w1.mono (by simp; omega))
  have z_w1_0 : w.heap.size < w1.heap.size := by have := hb_w1.size; first | omega | (simp at this; omega)
  have c_w1_0_0 : w1.cell? ⟨w.heap.size, 0, none⟩ = some (.slice (some ad) l.length cap) := (hb_w1.cell (by first | assumption | (simp; done) | (simp; omega))).trans (by first | assumption | (simp; done) | (simp [go_sem]; done) | (simp [*]; done) | ((repeat rw [World.cell?_alloc_lt _ _ _ (by first | (simp; done) | (simp; omega) | omega)]); first | assumption | (simp; done)))
  have f_w1_0_0 : w1.frozen? ⟨w.heap.size, 0, none⟩ = false := (hb_w1.frozen (by first | assumption | (simp; done) | (simp; omega))).trans (by first | assumption | (simp; done) | (simp [go_sem]; done) | (simp [*]; done))
  have c_w1_0_1 : w1.cell? ⟨w.heap.size, 1, none⟩ = some (.int .i64 pa) := (hb_w1.cell (by first | assumption | (simp; done) | (simp; omega))).trans (by first | assumption | (simp; done) | (simp [go_sem]; done) | (simp [*]; done) | ((repeat rw [World.cell?_alloc_lt _ _ _ (by first | (simp; done) | (simp; omega) | omega)]); first | assumption | (simp; done)))
  have f_w1_0_1 : w1.frozen? ⟨w.heap.size, 1, none⟩ = false := (hb_w1.frozen (by first | assumption | (simp; done) | (simp; omega))).trans (by first | assumption | (simp; done) | (simp [go_sem]; done) | (simp [*]; done))
  have c_w1_0_2 : w1.cell? ⟨w.heap.size, 2, none⟩ = some (.int .i64 pb) := (hb_w1.cell (by first | assumption | (simp; done) | (simp; omega))).trans (by first | assumption | (simp; done) | (simp [go_sem]; done) | (simp [*]; done) | ((repeat rw [World.cell?_alloc_lt _ _ _ (by first | (simp; done) | (simp; omega) | omega)]); first | assumption | (simp; done)))
  have f_w1_0_2 : w1.frozen? ⟨w.heap.size, 2, none⟩ = false := (hb_w1.frozen (by first | assumption | (simp; done) | (simp; omega))).trans (by first | assumption | (simp; done) | (simp [go_sem]; done) | (simp [*]; done))
  have c_w1_0_3 : w1.cell? ⟨w.heap.size, 3, none⟩ = some (.int .i64 ga) := (hb_w1.cell (by first | assumption | (simp; done) | (simp; omega))).trans (by first | assumption | (simp; done) | (simp [go_sem]; done) | (simp [*]; done) | ((repeat rw [World.cell?_alloc_lt _ _ _ (by first | (simp; done) | (simp; omega) | omega)]); first | assumption | (simp; done)))
  have f_w1_0_3 : w1.frozen? ⟨w.heap.size, 3, none⟩ = false := (hb_w1.frozen (by first | assumption | (simp; done) | (simp; omega))).trans (by first | assumption | (simp; done) | (simp [go_sem]; done) | (simp [*]; done))
  have c_w1_0_4 : w1.cell? ⟨w.heap.size, 4, none⟩ = some (.int .i64 gb) := (hb_w1.cell (by first | assumption | (simp; done) | (simp; omega))).trans (by first | assumption | (simp; done) | (simp [go_sem]; done) | (simp [*]; done) | ((repeat rw [World.cell?_alloc_lt _ _ _ (by first | (simp; done) | (simp; omega) | omega)]); first | assumption | (simp; done)))
  have f_w1_0_4 : w1.frozen? ⟨w.heap.size, 4, none⟩ = false := (hb_w1.frozen (by first | assumption | (simp; done) | (simp; omega))).trans (by first | assumption | (simp; done) | (simp [go_sem]; done) | (simp [*]; done))
  have c_w1_0_5 : w1.cell? ⟨w.heap.size, 5, none⟩ = some (.int .i64 se) := (hb_w1.cell (by first | assumption | (simp; done) | (simp; omega))).trans (by first | assumption | (simp; done) | (simp [go_sem]; done) | (simp [*]; done) | ((repeat rw [World.cell?_alloc_lt _ _ _ (by first | (simp; done) | (simp; omega) | omega)]); first | assumption | (simp; done)))
  have f_w1_0_5 : w1.frozen? ⟨w.heap.size, 5, none⟩ = false := (hb_w1.frozen (by first | assumption | (simp; done) | (simp; omega))).trans (by first | assumption | (simp; done) | (simp [go_sem]; done) | (simp [*]; done))
  have z_w1_1 : w.heap.size + 1 < w1.heap.size := by have := hb_w1.size; first | omega | (simp at this; omega)
  have c_w1_1_0 : w1.cell? ⟨w.heap.size + 1, 0, none⟩ = some (.slice none 0 0) := (hb_w1.cell (by first | assumption | (simp; done) | (simp; omega))).trans (by first | assumption | (simp; done) | (simp [go_sem]; done) | (simp [*]; done) | ((repeat rw [World.cell?_alloc_lt _ _ _ (by first | (simp; done) | (simp; omega) | omega)]); first | assumption | (simp; done)))
  have f_w1_1_0 : w1.frozen? ⟨w.heap.size + 1, 0, none⟩ = false := (hb_w1.frozen (by first | assumption | (simp; done) | (simp; omega))).trans (by first | assumption | (simp; done) | (simp [go_sem]; done) | (simp [*]; done))
  have c_w1_1_1 : w1.cell? ⟨w.heap.size + 1, 1, none⟩ = some (.int .i64 0) := (hb_w1.cell (by first | assumption | (simp; done) | (simp; omega))).trans (by first | assumption | (simp; done) | (simp [go_sem]; done) | (simp [*]; done) | ((repeat rw [World.cell?_alloc_lt _ _ _ (by first | (simp; done) | (simp; omega) | omega)]); first | assumption | (simp; done)))
  have f_w1_1_1 : w1.frozen? ⟨w.heap.size + 1, 1, none⟩ = false := (hb_w1.frozen (by first | assumption | (simp; done) | (simp; omega))).trans (by first | assumption | (simp; done) | (simp [go_sem]; done) | (simp [*]; done))
  have c_w1_1_2 : w1.cell? ⟨w.heap.size + 1, 2, none⟩ = some (.int .i64 0) := (hb_w1.cell (by first | assumption | (simp; done) | (simp; omega))).trans (by first | assumption | (simp; done) | (simp [go_sem]; done) | (simp [*]; done) | ((repeat rw [World.cell?_alloc_lt _ _ _ (by first | (simp; done) | (simp; omega) | omega)]); first | assumption | (simp; done)))
  have f_w1_1_2 : w1.frozen? ⟨w.heap.size + 1, 2, none⟩ = false := (hb_w1.frozen (by first | assumption | (simp; done) | (simp; omega))).trans (by first | assumption | (simp; done) | (simp [go_sem]; done) | (simp [*]; done))
  have c_w1_1_3 : w1.cell? ⟨w.heap.size + 1, 3, none⟩ = some (.int .i64 0) := (hb_w1.cell (by first | assumption | (simp; done) | (simp; omega))).trans (by first | assumption | (simp; done) | (simp [go_sem]; done) | (simp [*]; done) | ((repeat rw [World.cell?_alloc_lt _ _ _ (by first | (simp; done) | (simp; omega) | omega)]); first | assumption | (simp; done)))
  have f_w1_1_3 : w1.frozen? ⟨w.heap.size + 1, 3, none⟩ = false := (hb_w1.frozen (by first | assumption | (simp; done) | (simp; omega))).trans (by first | assumption | (simp; done) | (simp [go_sem]; done) | (simp [*]; done))
  have c_w1_1_4 : w1.cell? ⟨w.heap.size + 1, 4, none⟩ = some (.int .i64 0) := (hb_w1.cell (by first | assumption | (simp; done) | (simp; omega))).trans (by first | assumption | (simp; done) | (simp [go_sem]; done) | (simp [*]; done) | ((repeat rw [World.cell?_alloc_lt _ _ _ (by first | (simp; done) | (simp; omega) | omega)]); first | assumption | (simp; done)))
  have f_w1_1_4 : w1.frozen? ⟨w.heap.size + 1, 4, none⟩ = false := (hb_w1.frozen (by first | assumption | (simp; done) | (simp; omega))).trans (by first | assumption | (simp; done) | (simp [go_sem]; done) | (simp [*]; done))
  have c_w1_1_5 : w1.cell? ⟨w.heap.size + 1, 5, none⟩ = some (.int .i64 0) := (hb_w1.cell (by first | assumption | (simp; done) | (simp; omega))).trans (by first | assumption | (simp; done) | (simp [go_sem]; done) | (simp [*]; done) | ((repeat rw [World.cell?_alloc_lt _ _ _ (by first | (simp; done) | (simp; omega) | omega)]); first | assumption | (simp; done)))
  have f_w1_1_5 : w1.frozen? ⟨w.heap.size + 1, 5, none⟩ = false := (hb_w1.frozen (by first | assumption | (simp; done) | (simp; omega))).trans (by first | assumption | (simp; done) | (simp [go_sem]; done) | (simp [*]; done))
  clear hb_w1
  obtain ⟨g, cap', rfl, hg1, hg2⟩ := hown.form hl0
  have hgb : w.heap.size + 2 ≤ g := by simpa using hg1
  go_wp2_with fail
  refine bodyPost_ret (v := .agg #[.slice (some ⟨g, 0, none⟩) l.length cap', .int .i64 pa, .int .i64 pb, .int .i64 ga, .int .i64 gb, .int .i64 se]) (by simp [results, Try.results77, go_sem, z_w1_0, z_w1_1, c_w1_0_0, c_w1_0_1, c_w1_0_2, c_w1_0_3, c_w1_0_4, c_w1_0_5, c_w1_1_0, c_w1_1_1, c_w1_1_2, c_w1_1_3, c_w1_1_4, c_w1_1_5]) rfl ⟨g, cap', rfl, ?_, ?_⟩
  · refine own_base (B := w.heap.size + 2) ?_ (by omega)
    have hown2 : w1.ownsRow (w.heap.size + 2) 75 3 (.slice (some ⟨g, 0, none⟩) l.length cap') l.length (rcells l) := by simpa using hown
    repeat (refine ownsRow_setCell_below ?_ (by simp) _)
    exact hown2
  · have hz := B_w1.size
    go_grown
end Go.Proofs.Ytkhfbleldchnpaa
