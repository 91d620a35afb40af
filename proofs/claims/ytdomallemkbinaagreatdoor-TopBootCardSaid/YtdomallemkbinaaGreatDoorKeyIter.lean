/- keys.codes: the codes of a set, one by one: the contract of its iterator. -/
import Derived.RangeFuncNested
import Derived.RangeFuncBound
import Derived.RangeFuncCalls
import Derived.RangeFuncLeaves
import Derived.RangeFuncBox
import Derived.Shelf.Abstract
import Derived.Shelf.AbstractIn
import Derived.Shelf.RegionOpen
import Derived.WalkKit
import Derived.IntWalk
import Derived.OwnWalkIn
import Derived.TacticsInMore
import Derived.LoopNIn
import Derived.LoopIn
import Derived.Maps.AppendAt
import Derived.Test.YtdomallemkbinaaGreatDoorFkh
import Derived.Test.YtdomallemkbinaaGreatDoorAm22
import Derived.Test.YtdomallemkbinaaGreatDoorAm26
namespace Go.Proofs.YtdomallemkbinaaGreatDoor
open Go Go.RowKit Go.Shelf
set_option linter.unusedVariables false
attribute [local go_sem] Oper.semAt_some

abbrev BitsL := List Int
abbrev C256 := _root_.Fin 256
def hasB (b : BitsL) (k : Nat) : Bool := (F21 0 b (k : Int)).getD false
theorem hasB_some (b : BitsL) (k : Nat) (hk : k < 256) : F21 0 b (k : Int) = some (hasB b k) := by
  have h1 : (k : Int).tdiv 64 = ((k / 64 : Nat) : Int) := by rw [Int.tdiv_eq_ediv_of_nonneg (by omega)]; omega
  have h2 : (k : Int).tmod 64 = ((k % 64 : Nat) : Int) := by rw [Int.tmod_eq_emod_of_nonneg (by omega)]; omega
  have e : ∃ v, F21 0 b (k : Int) = some v := by
    unfold F21
    rw [h1, h2, w64 (n := ((k / 64 : Nat) : Int)) (by omega) (by omega), inb_true (by omega) (by omega), show IntKind.wrap .u64 ((k % 64 : Nat) : Int) = ((k % 64 : Nat) : Int) by simp [IntKind.wrap, IntKind.bits, IntKind.signed]; omega, decide_eq_true (show (0 : Int) ≤ ((k % 64 : Nat) : Int) by omega)]
    exact ⟨_, rfl⟩
  obtain ⟨v, hv⟩ := e
  unfold hasB
  rw [hv]; rfl
theorem has_calls (b0 b1 b2 b3 : Int) (k : Nat) (hk : k < 256) (W : World) :
    Calls Tryz.prog 21 #[.agg #[.int .u64 b0, .int .u64 b1, .int .u64 b2, .int .u64 b3], .int .i64 (k : Int)] W fun e w' => e = .returned (.bool (hasB [b0, b1, b2, b3] k)) ∧ Below W.heap.size W w' := by
  have hp := F21_ok 0 [b0, b1, b2, b3] (k : Int) _ (hasB_some _ k hk)
  have := hp W (fun _ => False) [.agg #[.int .u64 b0, .int .u64 b1, .int .u64 b2, .int .u64 b3], .int .i64 (k : Int)] ⟨fun _ h => h.elim, Bs.free W rfl⟩
    ⟨_, _, rfl, ⟨_, rfl, rfl, [_], _, rfl, rfl, [_], _, rfl, rfl, [_], _, rfl, rfl, [_], _, rfl, rfl, rfl⟩, _, _, rfl, rfl, rfl⟩
  refine this.mono ?_
  rintro e w' ⟨v, G', rfl, hN, hv⟩
  exact ⟨by rw [val_bool hv], hN.below⟩
/-- a set's codes, rising -/
def codesB (b : BitsL) : List C256 := (List.finRange 256).filter fun c => hasB b c.val
def codesTo (b : BitsL) (k : Nat) : List C256 := ((List.finRange 256).take k).filter fun c => hasB b c.val
theorem codesTo_succ (b : BitsL) (k : Nat) (hk : k < 256) : codesTo b (k + 1) = codesTo b k ++ (if hasB b k = true then [⟨k, hk⟩] else []) := by
  unfold codesTo
  rw [List.take_add_one, List.filter_append]
  have : (List.finRange 256)[k]? = some ⟨k, hk⟩ := by
    rw [List.getElem?_eq_getElem (by simpa using hk)]; simp
  rw [this]
  simp [List.filter_cons]
theorem codesTo_all (b : BitsL) : codesTo b 256 = codesB b := by
  unfold codesTo codesB
  rw [List.take_of_length_le (by simp)]
theorem codesTo_pre (b : BitsL) (k : Nat) : codesTo b k <+: codesB b := by
  unfold codesTo codesB
  exact (List.take_prefix k _).filter _
theorem codesTo_lt (b : BitsL) (k : Nat) (hk : k < 256) (h : hasB b k = true) : (codesTo b k).length < (codesB b).length := by
  have h1 := codesTo_succ b k hk
  rw [if_pos h] at h1
  have h2 := (codesTo_pre b (k + 1)).length_le
  rw [h1, List.length_append, List.length_singleton] at h2
  omega
/-- a box stays as it is -/
def BoxKept (Bn : Nat) (W W' : World) : Prop := W.heap.size ≤ W'.heap.size ∧ W'.heap[Bn]? = W.heap[Bn]?
theorem BoxKept.cell {Bn i : Nat} {W W' : World} (h : BoxKept Bn W W') : W'.cell? ⟨Bn, i, none⟩ = W.cell? ⟨Bn, i, none⟩ := World.cell?_of_block (a := ⟨Bn, i, none⟩) h.2
set_option maxRecDepth 100000 in
set_option maxHeartbeats 2000000 in
/-- the closure's code, for every loop body that keeps the set's box -/
theorem codes1_in (n : Nat) (l Bn : Nat) (b0 b1 b2 b3 : Int) (J Jx : List C256 → World → Prop)
    (hJ : ∀ s W W', J s W → W.grownBy W' none → J s W')
    (hY : ∀ pre (x : C256) W, J pre W → pre.length < (codesB [b0, b1, b2, b3]).length → YieldAt Fence.wide (n - 1) Tryz.prog l #[.int .i64 ((x.val : Nat) : Int)] W fun e W' =>
      (e = .returned (.bool true) ∧ J (pre ++ [x]) W' ∧ BoxKept Bn W W') ∨ (e = .returned (.bool false) ∧ Jx (pre ++ [x]) W'))
    (W : World) (hw : Bn < W.heap.size) (hBn : W.cell? ⟨Bn, 0, none⟩ = some (.int .u64 b0) ∧ W.cell? ⟨Bn, 1, none⟩ = some (.int .u64 b1) ∧ W.cell? ⟨Bn, 2, none⟩ = some (.int .u64 b2) ∧ W.cell? ⟨Bn, 3, none⟩ = some (.int .u64 b3)) (h0 : J [] W) :
    CallsIn Fence.wide n Tryz.prog 20 #[.func (.yield l) #[] #[], .pointer (some ⟨Bn, 0, none⟩)] W fun e W' => (∃ v, e = .returned v) ∧
      ((∃ ys, ys = codesB [b0, b1, b2, b3] ∧ J ys W') ∨ (∃ pre, pre <+: codesB [b0, b1, b2, b3] ∧ Jx pre W')) := by
  refine callsIn_of_wp Tryz.func20 rfl trivial ?_ rfl
  simp only [Tryz.ntmps20, List.size_toArray, List.length_cons, List.length_nil, Nat.reduceAdd, Nat.reduceSub, Array.replicate_succ, Array.replicate_zero, List.push_toArray, List.append_toArray, List.nil_append, List.cons_append]
  gi_wp2
  gi_loopw [4] (fun p wr => ∃ k : Nat, k ≤ 256 ∧ p = .int .i64 (k : Int) ∧ J (codesTo [b0, b1, b2, b3] k) wr ∧ Bn < wr.heap.size ∧ (wr.cell? ⟨Bn, 0, none⟩ = some (.int .u64 b0) ∧ wr.cell? ⟨Bn, 1, none⟩ = some (.int .u64 b1) ∧ wr.cell? ⟨Bn, 2, none⟩ = some (.int .u64 b2) ∧ wr.cell? ⟨Bn, 3, none⟩ = some (.int .u64 b3)))
    (fun p wr => 256 - (intOf p).toNat)
  case atStart =>
    exact ⟨0, by omega, rfl, h0, hw, hBn⟩
  case round =>
    obtain ⟨k, hk, rfl, hJk, hsz, hc0, hc1, hc2, hc3⟩ := hrel
    by_cases hlt : k < 256
    · have hcon := has_calls b0 b1 b2 b3 k hlt
      have hlt' : (k : Int) < 256 := by omega
      have kept : ∀ w' : World, Below wr.heap.size wr w' → J (codesTo [b0, b1, b2, b3] k) w' ∧ Bn < w'.heap.size ∧ (w'.cell? ⟨Bn, 0, none⟩ = some (.int .u64 b0) ∧ w'.cell? ⟨Bn, 1, none⟩ = some (.int .u64 b1) ∧ w'.cell? ⟨Bn, 2, none⟩ = some (.int .u64 b2) ∧ w'.cell? ⟨Bn, 3, none⟩ = some (.int .u64 b3)) := fun w' hbw =>
        ⟨hJ _ _ w' hJk ⟨hbw.os, hbw.tape, hbw.output, hbw.size, fun b hb _ => hbw.block b hb⟩, Nat.lt_of_lt_of_le hsz hbw.size, (hbw.cell (p := ⟨Bn, 0, none⟩) hsz).trans hc0, (hbw.cell (p := ⟨Bn, 1, none⟩) hsz).trans hc1, (hbw.cell (p := ⟨Bn, 2, none⟩) hsz).trans hc2, (hbw.cell (p := ⟨Bn, 3, none⟩) hsz).trans hc3⟩
      cases hb : hasB [b0, b1, b2, b3] k with
      | false =>
        rw [hb] at hcon
        gi_wp2
        refine And.intro trivial ?_
        refine And.intro (fun h => by simp [Fence.wide] at h) ?_
        refine (callsIn_wide.2 (hcon _)).mono ?_
        rintro e w' ⟨rfl, hbw⟩
        obtain ⟨hJ1, hs1, hd⟩ := kept w' hbw
        clear kept hcon
        gi_wp2
        refine And.intro (fun _ h => by cases h) ?_
        gi_wp2
        go_roundw
        case rel => exact ⟨k + 1, by omega, by simp, by rw [codesTo_succ _ k hlt, hb]; simpa using hJ1, hs1, hd⟩
        case measure => simp [intOf]; omega
      | true =>
        rw [hb] at hcon
        gi_wp2
        refine And.intro trivial ?_
        refine And.intro (fun h => by simp [Fence.wide] at h) ?_
        refine (callsIn_wide.2 (hcon _)).mono ?_
        rintro e w' ⟨rfl, hbw⟩
        obtain ⟨hJ1, hs1, hd⟩ := kept w' hbw
        clear kept hcon
        obtain ⟨fn, tmps, assign, body, hy, hR⟩ := hY _ ⟨k, hlt⟩ w' hJ1 (codesTo_lt _ k hlt hb)
        dsimp only at hy
        gi_wp2
        refine And.intro (fun h => by simp [Fence.wide] at h) ?_
        refine hR.mono ?_
        rintro e W3 (⟨rfl, hJ3, hk3⟩ | ⟨rfl, hx3⟩)
        · obtain ⟨hd0, hd1, hd2, hd3⟩ := hd
          have hd' : Bn < W3.heap.size ∧ (W3.cell? ⟨Bn, 0, none⟩ = some (.int .u64 b0) ∧ W3.cell? ⟨Bn, 1, none⟩ = some (.int .u64 b1) ∧ W3.cell? ⟨Bn, 2, none⟩ = some (.int .u64 b2) ∧ W3.cell? ⟨Bn, 3, none⟩ = some (.int .u64 b3)) :=
            ⟨Nat.lt_of_lt_of_le hs1 hk3.1, hk3.cell.trans hd0, hk3.cell.trans hd1, hk3.cell.trans hd2, hk3.cell.trans hd3⟩
          gi_wp2
          go_roundw
          case rel => exact ⟨k + 1, by omega, by simp, by rw [codesTo_succ _ k hlt, hb]; simpa using hJ3, hd'⟩
          case measure => simp [intOf]; omega
        · gi_wp2
          refine bodyPost_ret (results_none rfl _ _ _) rfl ?_
          refine ⟨⟨_, rfl⟩, .inr ⟨_, ?_, hx3⟩⟩
          have := codesTo_pre [b0, b1, b2, b3] (k + 1)
          rwa [codesTo_succ _ k hlt, if_pos hb] at this
    · have hk2 : k = 256 := by omega
      subst hk2
      gi_wp2
      go_end0
      exact ⟨⟨_, rfl⟩, .inl ⟨_, codesTo_all _, hJk⟩⟩
set_option maxHeartbeats 1000000 in
/-- codes: the set is boxed; the function value captures the box -/
theorem codes_in (n : Nat) (b0 b1 b2 b3 : Int) (w : World) :
    CallsIn Fence.wide n Tryz.prog 11 #[.agg #[.int .u64 b0, .int .u64 b1, .int .u64 b2, .int .u64 b3]] w fun e w' => e = .returned (.func (.func 20) #[] #[.pointer (some ⟨w.heap.size, 0, none⟩)]) ∧ w' = w.alloc (.cells #[.int .u64 b0, .int .u64 b1, .int .u64 b2, .int .u64 b3] 25) := by
  refine callsIn_of_wp Tryz.func11 rfl trivial ?_ rfl
  simp only [Tryz.ntmps11, List.size_toArray, List.length_cons, List.length_nil, Nat.reduceAdd, Nat.reduceSub, Array.replicate_succ, Array.replicate_zero, List.push_toArray, List.append_toArray, List.nil_append, List.cons_append]
  gi_wp2
  go_ret
  exact ⟨rfl, rfl⟩
theorem codes_stops (n : Nat) (Bn : Nat) (b0 b1 b2 b3 : Int) (w : World) (hBn : Bn < w.heap.size)
    (hc : w.cell? ⟨Bn, 0, none⟩ = some (.int .u64 b0) ∧ w.cell? ⟨Bn, 1, none⟩ = some (.int .u64 b1) ∧ w.cell? ⟨Bn, 2, none⟩ = some (.int .u64 b2) ∧ w.cell? ⟨Bn, 3, none⟩ = some (.int .u64 b3)) :
    SeqStopsK Fence.wide n Tryz.prog 20 #[.pointer (some ⟨Bn, 0, none⟩)] (fun x : C256 => #[Value.int .i64 ((x.val : Nat) : Int)]) (BoxKept Bn) (fun ys => ys = codesB [b0, b1, b2, b3]) (fun pre => pre <+: codesB [b0, b1, b2, b3]) (codesB [b0, b1, b2, b3]).length w := fun l J Jx W hW hJ _ hY h0 =>
  codes1_in n l Bn b0 b1 b2 b3 J Jx (fun s A B hs hg => hJ s A B none hs hg (fun r e => by cases e)) hY W (Nat.lt_of_lt_of_le hBn hW.size)
    ⟨(hW.cell (p := ⟨Bn, 0, none⟩) hBn).trans hc.1, (hW.cell (p := ⟨Bn, 1, none⟩) hBn).trans hc.2.1, (hW.cell (p := ⟨Bn, 2, none⟩) hBn).trans hc.2.2.1, (hW.cell (p := ⟨Bn, 3, none⟩) hBn).trans hc.2.2.2⟩ h0
theorem boxKept_t {Bn : Nat} {A B C : World} (h : BoxKept Bn A B) (k : BoxKept Bn B C) : BoxKept Bn A C := ⟨Nat.le_trans h.1 k.1, k.2.trans h.2⟩
theorem boxKept_b {Bn n : Nat} (hn : Bn < n) (W : World) (l : Nat) (o o' : Obj) (hl : n ≤ l) (_ : W.heap[l]? = some o) (_ : o.isCells = false) (_ : o.isWalk = false) : BoxKept Bn W (W.putObj l o') :=
  ⟨by simp [World.putObj], World.putObj_heap_other (by omega)⟩
end Go.Proofs.YtdomallemkbinaaGreatDoor
