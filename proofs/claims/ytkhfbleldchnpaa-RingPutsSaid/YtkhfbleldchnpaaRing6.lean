/- Contracts: slices.Equal at []Cell and SameRing, of equal ones. -/
import Derived.Test.YtkhfbleldchnpaaRing5
namespace Go.Proofs.Ytkhfbleldchnpaa
open Go.RowKit
set_option linter.unusedVariables false
set_option linter.unusedSimpArgs false
set_option maxRecDepth 100000

set_option maxHeartbeats 1000000 in
theorem eqCells_same (va vb : Value) (xs : List RC) (w : World) (ha : Reads w 3 va xs.length (rcells xs)) (hb : Reads w 3 vb xs.length (rcells xs)) :
    Calls Try.prog 80 #[va, vb] w fun e w' => e = .returned (.bool true) ∧ Below w.heap.size w w' := by
  obtain ⟨aa, ka, rfl, ha1, ha2⟩ := ha.rc_open
  obtain ⟨ab, kb, rfl, hb1, hb2⟩ := hb.rc_open
  unfold maxLen at ha2 hb2
  have Ha3 := Lib.hid ha
  have Hb3 := Lib.hid hb
  clear ha hb
  go_enter Try.func80, Try.ntmps80
  go_wp2_with fail
  go_loopw [13] (fun i wr => ∃ k : Nat, k ≤ xs.length ∧ i = .int .i64 k ∧ Below w.heap.size w wr) (fun i _ => xs.length - (intOf i).toNat)
  case atStart => exact ⟨0, Nat.zero_le _, rfl, Below.refl _ _⟩
  case round =>
    obtain ⟨k, hk, rfl, hbel⟩ := hrel
    by_cases hlt : k < xs.length
    · obtain ⟨b1, o1, rfl, hb1, hx1, hx1', hx1''⟩ := Reads.rcell Ha3.out k hlt
      obtain ⟨b2, o2, rfl, hb2, hx2, hx2', hx2''⟩ := Reads.rcell Hb3.out k hlt
      have hc1 := (hbel.cell (p := ⟨b1, o1 + k * 3, none⟩) hb1).trans hx1
      have hc1' := (hbel.cell (p := ⟨b1, o1 + k * 3 + 1, none⟩) hb1).trans hx1'
      have hc1'' := (hbel.cell (p := ⟨b1, o1 + k * 3 + 2, none⟩) hb1).trans hx1''
      have hc2 := (hbel.cell (p := ⟨b2, o2 + k * 3, none⟩) hb2).trans hx2
      have hc2' := (hbel.cell (p := ⟨b2, o2 + k * 3 + 1, none⟩) hb2).trans hx2'
      have hc2'' := (hbel.cell (p := ⟨b2, o2 + k * 3 + 2, none⟩) hb2).trans hx2''
      clear hx1 hx2 hx1' hx2' hx1'' hx2''
      generalize xs[k] = x at *
      obtain ⟨x1, x2, x3⟩ := x
      go_wp2_with fail
      go_quiet (fail)
      go_wp2_with fail
      go_roundw
      case rel => exact ⟨k + 1, by omega, by go_num, hbel.trans (below_drewN _ _ _)⟩
      case measure => simp [intOf]; omega
    · obtain rfl : k = xs.length := by omega
      go_wp2_with fail
      go_ret
      exact ⟨rfl, hbel⟩
set_option maxHeartbeats 1000000 in
theorem sameRing_same (pa pb ga gb se : Int) (va vb : Value) (l : List RC) (w : World) (ha : Reads w 3 va l.length (rcells l)) (hb : Reads w 3 vb l.length (rcells l)) :
    Calls Try.prog 38 #[.agg #[va, .int .i64 pa, .int .i64 pb, .int .i64 ga, .int .i64 gb, .int .i64 se], .agg #[vb, .int .i64 pa, .int .i64 pb, .int .i64 ga, .int .i64 gb, .int .i64 se]] w fun e w' => e = .returned (.bool true) ∧ Below w.heap.size w w' := by
  have HE : Hid (∀ w' : World, Below w.heap.size w w' → Calls Try.prog 80 #[va, vb] w' fun e w'' => e = .returned (.bool true) ∧ Below w'.heap.size w' w'') := fun w' h => eqCells_same va vb l w' (ha.below h (Nat.le_refl _)) (hb.below h (Nat.le_refl _))
  obtain ⟨aa, ka, rfl, ha1, ha2⟩ := ha.rc_open
  obtain ⟨ab, kb, rfl, hb1, hb2⟩ := hb.rc_open
  clear ha hb
  go_enter Try.func38, Try.ntmps38
  go_wp2_with fail
  refine (HE.out _ (by go_grown)).mono ?_
  rintro r w2 ⟨rfl, hb⟩
  go_wp2_with fail
  go_ret
  exact ⟨by simp, (((Below.refl _ _).alloc (Nat.le_refl _) _).alloc (by simp) _).trans (hb.mono (by simp; omega))⟩
/-- what both answer to a put -/
theorem puts_both (pa pb ga gb se word : Int) (a : Option Addr) (cap : Nat) (l : List RC) (w0 : World) (hr0 : Reads w0 3 (.slice a l.length cap) l.length (rcells l)) :
    ∃ (A B C D S er : Int) (ql : List RC), (∀ w : World, Reads w 3 (.slice a l.length cap) l.length (rcells l) → Calls Try.prog 34 #[.agg #[.slice a l.length cap, .int .i64 pa, .int .i64 pb, .int .i64 ga, .int .i64 gb, .int .i64 se], .int .u64 word] w fun e w' => ∃ a' cap', e = .returned (.tuple #[.agg #[.slice a' ql.length cap', .int .i64 A, .int .i64 B, .int .i64 C, .int .i64 D, .int .i64 S], .int .i64 er]) ∧ Reads w' 3 (.slice a' ql.length cap') ql.length (rcells ql) ∧ Below w.heap.size w w') ∧
      (∀ w : World, Reads w 3 (.slice a l.length cap) l.length (rcells l) → Calls Try.prog 35 #[.agg #[.slice a l.length cap, .int .i64 pa, .int .i64 pb, .int .i64 ga, .int .i64 gb, .int .i64 se], .int .u64 word] w fun e w' => ∃ a' cap', e = .returned (.tuple #[.agg #[.slice a' ql.length cap', .int .i64 A, .int .i64 B, .int .i64 C, .int .i64 D, .int .i64 S], .int .i64 er]) ∧ Reads w' 3 (.slice a' ql.length cap') ql.length (rcells ql) ∧ Below w.heap.size w w') := by
  by_cases hE : ringErr l pa pb ga gb se = 0
  · have ho := ringErr_ok hE
    obtain ⟨b, off, rfl, -⟩ := Reads.rcell hr0 0 (by omega)
    obtain ⟨pn, rfl⟩ := Int.eq_ofNat_of_zero_le ho.2.2.2.2.2.1.1
    by_cases hf : advA pn l.length = se
    · refine ⟨0, 0, 0, 0, 0, 11, [], fun w hr => ?_, fun w hr => ?_⟩
      · exact (putP_full pn pb ga gb se word _ cap l w hr hE hf).mono (fun e w' h => ⟨none, 0, h.1, Reads.nil _ _, h.2⟩)
      · exact (putR_full pn pb ga gb se word _ cap l w hr hE hf).mono (fun e w' h => ⟨none, 0, h.1, Reads.nil _ _, h.2⟩)
    · have hl := putL_length l pn pb word
      refine ⟨advA pn l.length, advB pn pb l.length, ga, gb, se, 0, putL l pn pb word, fun w hr => ?_, fun w hr => ?_⟩
      · rw [hl]
        exact (putP_ok pn pb ga gb se word _ cap l w hr hE hf).mono (fun e w' ⟨g, cap', h1, h2, h3⟩ => ⟨_, cap', h1, Reads.of_own h2, h3⟩)
      · rw [hl]
        exact (putR_ok pn pb ga gb se word _ cap l w hr hE hf).mono (fun e w' ⟨g, cap', h1, h2, h3⟩ => ⟨_, cap', h1, Reads.of_own h2, h3⟩)
  · refine ⟨0, 0, 0, 0, 0, ringErr l pa pb ga gb se, [], fun w hr => ?_, fun w hr => ?_⟩
    · exact (putP_bad pa pb ga gb se word a cap l w hr hE).mono (fun e w' h => ⟨none, 0, h.1, Reads.nil _ _, h.2⟩)
    · exact (putR_bad pa pb ga gb se word a cap l w hr hE).mono (fun e w' h => ⟨none, 0, h.1, Reads.nil _ _, h.2⟩)
end Go.Proofs.Ytkhfbleldchnpaa
