/- Functions of the program, as functions of values. -/
import Derived.Test.YtgcdohclbkmmdaaAm27
import Derived.Test.YtgcdohclbkmmdaaChecked
namespace Go.Proofs.Ytgcdohclbkmmdaa
open Go Go.RowKit
set_option linter.unusedVariables false
set_option maxRecDepth 100000

/-! plugtree/plugref.Between -/
def F16 (n : Nat) (vn : Int) (low : Int) (high : Int) : Option Bool := (bif (decide (low ≤ vn)) then (some (decide (vn ≤ high))) else (some false))
theorem F16_ok (n : Nat) (vn : Int) (low : Int) (high : Int) (r : Bool) (h : F16 n vn low high = some r) : PureC Try.prog 16 [(.int .i64 vn), (.int .i64 low), (.int .i64 high)] (.bool r) [] := by
  refine PureC.mkS Try.func16 rfl rfl ?_
  intro w0 fz0 hfz
  replace h : (bif (decide (low ≤ vn)) then (some (decide (vn ≤ high))) else (some false)) = some r := h
  refine TS.seq ?_
  have hq : (True) ∧ (True) := ⟨trivial, trivial⟩
  refine TS.reg [] ?_ ?_
  · apply prop_of ?_ hq
    kernel_rfl
  refine XS.then ?_
  refine TS.seq ?_
  rcases bif_some h with ⟨c1, h⟩ | ⟨c2, h⟩
  · have hq : (True) ∧ ((True) ∧ ((True) ∧ (((True) ∧ (decide (low ≤ vn)) = true) ∧ ((True) ∧ ((True) ∧ ((True) ∧ ((True) ∧ ((True) ∧ (True))))))))) := ⟨trivial, ⟨trivial, ⟨trivial, ⟨⟨trivial, c1⟩, ⟨trivial, ⟨trivial, ⟨trivial, ⟨trivial, ⟨trivial, trivial⟩⟩⟩⟩⟩⟩⟩⟩⟩
    refine TS.reg [.none, .none, .none, .dec true] ?_ ?_
    · apply prop_of ?_ hq
      kernel_rfl
    refine XS.then ?_
    refine TS.ret ?_
    obtain rfl : (decide (vn ≤ high)) = r := Option.some.inj h
    exact XS.fin [] ((True) ∧ (True)) (by kernel_rfl) ⟨trivial, trivial⟩
  · have hq : (True) ∧ ((True) ∧ ((True) ∧ (((True) ∧ (decide (low ≤ vn)) = false) ∧ ((True) ∧ ((True) ∧ (True)))))) := ⟨trivial, ⟨trivial, ⟨trivial, ⟨⟨trivial, c2⟩, ⟨trivial, ⟨trivial, trivial⟩⟩⟩⟩⟩⟩
    refine TS.reg [.none, .none, .none, .dec false] ?_ ?_
    · apply prop_of ?_ hq
      kernel_rfl
    refine XS.then ?_
    refine TS.ret ?_
    obtain rfl : false = r := Option.some.inj h
    exact XS.fin [] ((True) ∧ (True)) (by kernel_rfl) ⟨trivial, trivial⟩

/-! plugtree/plugref.endsIn -/
def F65_l2 (n : Nat) (s_Ends : List Int) (to : Int) (k65_2 : Int → Option Bool) : Int → Option Bool
  | k => (bif (decide (k ≤ to)) then (bif inb k 32 then (bif ((s_Ends.getD k.toNat (0 : Int)) != (0 : Int)) then (some true) else (k65_2 (IntKind.wrap .i64 (k + (1 : Int))))) else none) else (some false))
def F65 (n : Nat) (s_State : Int) (s_Addr : Int) (s_Ends : List Int) (s_Marks : List Int) (vfrom : Int) (to : Int) : Option Bool := (loopF (F65_l2 n s_Ends to) n vfrom)
theorem F65_ok (n : Nat) (s_State : Int) (s_Addr : Int) (s_Ends : List Int) (s_Marks : List Int) (vfrom : Int) (to : Int) (r : Bool) (h : F65 n s_State s_Addr s_Ends s_Marks vfrom to = some r) : PureC Try.prog 65 [(.st (.cons (.int .i64 s_State) (.cons (.int .i64 s_Addr) (.cons (.arr 32 (.int .i64) s_Ends) (.arr 32 (.int .i64) s_Marks))))), (.int .i64 vfrom), (.int .i64 to)] (.bool r) [] := by
  refine PureC.mkS Try.func65 rfl rfl ?_
  intro w0 fz0 hfz
  replace h : (loopF (F65_l2 n s_Ends to) n vfrom) = some r := h
  refine TS.seq ?_
  have hq : (True) ∧ ((True) ∧ (True)) := ⟨trivial, ⟨trivial, trivial⟩⟩
  refine TS.reg [] ?_ ?_
  · apply prop_of ?_ hq
    kernel_rfl
  refine XS.then ?_
  refine TS.seq ?_
  refine TS.seq ?_
  have hq : (True) ∧ ((True) ∧ (True)) := ⟨trivial, ⟨trivial, trivial⟩⟩
  refine TS.reg [] ?_ ?_
  · apply prop_of ?_ hq
    kernel_rfl
  refine XS.then ?_
  refine TS.block ?_
  refine TS.reLoop [0] (mkMask 19 [2, 3, 7]) (D := Int) (fun d => match d with | k => (mkTs 19 [(2, (.int .i64 to)), (3, (.ptr 0 [])), (7, (.int .i64 k))], [(.box 24 (.st (.cons (.int .i64 s_State) (.cons (.int .i64 s_Addr) (.cons (.arr 32 (.int .i64) s_Ends) (.arr 32 (.int .i64) s_Marks))))))])) (fun n' d => loopF (F65_l2 n s_Ends to) n' d = some r) n vfrom h ?_ (fun d => loopF_zero _ d r) ?_
  · kernel_rfl
  · rintro n2 k h
    replace h : (bif (decide (k ≤ to)) then (bif inb k 32 then (bif ((s_Ends.getD k.toNat (0 : Int)) != (0 : Int)) then (some true) else ((loopF (F65_l2 n s_Ends to) n2) (IntKind.wrap .i64 (k + (1 : Int))))) else none) else (some false)) = some r := h
    refine TS.seq ?_
    refine TS.seq ?_
    have hq : (True) ∧ ((True) ∧ ((True) ∧ (True))) := ⟨trivial, ⟨trivial, ⟨trivial, trivial⟩⟩⟩
    refine TS.reg [] ?_ ?_
    · apply prop_of ?_ hq
      kernel_rfl
    refine XS.then ?_
    rcases bif_some h with ⟨c1, h⟩ | ⟨c2, h⟩
    · refine TS.cond (decide (k ≤ to)) ?_ (fun e => ?_) (fun e => by rw [c1] at e; cases e)
      · kernel_rfl
      refine TS.skip ?_
      refine XS.then ?_
      refine TS.seq ?_
      refine TS.block ?_
      refine TS.seq ?_
      obtain ⟨t3, h⟩ := test_some h
      have hq : (True) ∧ ((True) ∧ ((inR k 32) ∧ ((k.toNat < 32 ∧ (True)) ∧ ((True) ∧ (True))))) := ⟨trivial, ⟨trivial, ⟨inb_ok t3, ⟨⟨inR_lt (inb_ok t3), trivial⟩, ⟨trivial, trivial⟩⟩⟩⟩⟩
      refine TS.reg [] ?_ ?_
      · apply prop_of ?_ hq
        kernel_rfl
      refine XS.then ?_
      rcases bif_some h with ⟨c4, h⟩ | ⟨c5, h⟩
      · refine TS.cond ((s_Ends.getD k.toNat (0 : Int)) != (0 : Int)) ?_ (fun e => ?_) (fun e => by rw [c4] at e; cases e)
        · kernel_rfl
        refine TS.seq ?_
        have hq : (True) ∧ (True) := ⟨trivial, trivial⟩
        refine TS.reg [] ?_ ?_
        · apply prop_of ?_ hq
          kernel_rfl
        refine XS.then ?_
        refine TS.ret ?_
        refine XS.blockRet ?_
        refine XS.passR ?_
        refine XS.passR ?_
        refine XS.blockRet ?_
        refine XS.passR ?_
        obtain rfl : true = r := Option.some.inj h
        exact XS.fin [] ((True) ∧ (True)) (by kernel_rfl) ⟨trivial, trivial⟩
      · refine TS.cond ((s_Ends.getD k.toNat (0 : Int)) != (0 : Int)) ?_ (fun e => by rw [c5] at e; cases e) (fun e => ?_)
        · kernel_rfl
        refine TS.skip ?_
        refine XS.blockEnd ?_
        refine XS.then ?_
        have hq : (True) ∧ ((True) ∧ ((True) ∧ (True))) := ⟨trivial, ⟨trivial, ⟨trivial, trivial⟩⟩⟩
        refine TS.reg [] ?_ ?_
        · apply prop_of ?_ hq
          kernel_rfl
        refine XS.reAny [0] (mkMask 19 [2, 3, 7]) (IntKind.wrap .i64 (k + (1 : Int))) h ?_
        kernel_rfl
    · refine TS.cond (decide (k ≤ to)) ?_ (fun e => by rw [c2] at e; cases e) (fun e => ?_)
      · kernel_rfl
      refine TS.exit ?_
      refine XS.passE ?_
      refine XS.passE ?_
      refine XS.out ?_
      refine XS.then ?_
      refine TS.seq ?_
      have hq : (True) ∧ (True) := ⟨trivial, trivial⟩
      refine TS.reg [] ?_ ?_
      · apply prop_of ?_ hq
        kernel_rfl
      refine XS.then ?_
      refine TS.ret ?_
      obtain rfl : false = r := Option.some.inj h
      exact XS.fin [] ((True) ∧ (True)) (by kernel_rfl) ⟨trivial, trivial⟩

/-! plugtree/plugref.Board -/
def F15_l30 (n : Nat) (k15_25 : Int → Option Int) (b_Slots : List (Int × Int × (List Int) × List Int)) (x : Int) (k15_30 : Int → Option Int) : Int → Option Int
  | x_5 => (bif (decide (x_5 < (((b_Slots.take x.toNat).length : Nat) : Int))) then (bif inb x_5 ((b_Slots.take x.toNat).length) then (bif (((b_Slots.take x.toNat).getD x_5.toNat ((0 : Int), ((0 : Int), ((List.replicate 32 (0 : Int)), (List.replicate 32 (0 : Int)))))).2.1 == (b_Slots.getD x.toNat ((0 : Int), ((0 : Int), ((List.replicate 32 (0 : Int)), (List.replicate 32 (0 : Int)))))).2.1) then (some (4 : Int)) else (k15_30 (IntKind.wrap .i64 (x_5 + (1 : Int))))) else none) else (k15_25 (IntKind.wrap .i64 (x + (1 : Int)))))
def F15_l29 (n : Nat) (k15_25 : Int → Option Int) (b_Slots : List (Int × Int × (List Int) × List Int)) (x : Int) (k15_29 : Int → Option Int) : Int → Option Int
  | x_4 => (bif (decide (x_4 < (32 : Int))) then (bif inb x_4 32 then ((F16 n (((b_Slots.getD x.toNat ((0 : Int), ((0 : Int), ((List.replicate 32 (0 : Int)), (List.replicate 32 (0 : Int)))))).2.2.1).getD x_4.toNat (0 : Int)) (0 : Int) (3 : Int)).bind fun y_2 => (bif (!y_2) then (some (4 : Int)) else ((F16 n (((b_Slots.getD x.toNat ((0 : Int), ((0 : Int), ((List.replicate 32 (0 : Int)), (List.replicate 32 (0 : Int)))))).2.2.2).getD x_4.toNat (0 : Int)) (0 : Int) (65535 : Int)).bind fun y_3 => (bif (!y_3) then (some (4 : Int)) else (bif ((((b_Slots.getD x.toNat ((0 : Int), ((0 : Int), ((List.replicate 32 (0 : Int)), (List.replicate 32 (0 : Int)))))).2.2.1).getD x_4.toNat (0 : Int)) == (0 : Int)) then (bif ((((b_Slots.getD x.toNat ((0 : Int), ((0 : Int), ((List.replicate 32 (0 : Int)), (List.replicate 32 (0 : Int)))))).2.2.2).getD x_4.toNat (0 : Int)) != (0 : Int)) then (some (4 : Int)) else (k15_29 (IntKind.wrap .i64 (x_4 + (1 : Int))))) else (k15_29 (IntKind.wrap .i64 (x_4 + (1 : Int))))))))) else none) else (bif subB b_Slots.length none (some x) then (loopF (F15_l30 n k15_25 b_Slots x) n (0 : Int)) else none))
def F15_j27 (n : Nat) (k15_25 : Int → Option Int) (b_Slots : List (Int × Int × (List Int) × List Int)) (x : Int) : Bool → Option Int
  | x_3 => (bif x_3 then (some (4 : Int)) else (loopF (F15_l29 n k15_25 b_Slots x) n (0 : Int)))
def F15_j26 (n : Nat) (k15_25 : Int → Option Int) (b_Slots : List (Int × Int × (List Int) × List Int)) (x : Int) : Bool → Option Int
  | x_2 => (bif x_2 then (some (4 : Int)) else (bif (decide ((b_Slots.getD x.toNat ((0 : Int), ((0 : Int), ((List.replicate 32 (0 : Int)), (List.replicate 32 (0 : Int)))))).1 < (2 : Int))) then (bif (!(Sh.beq (.st (.pair (.int .i64) (.pair (.int .i64) (.pair (.arr 32 (.int .i64)) (.arr 32 (.int .i64)))))) ((0 : Int), ((b_Slots.getD x.toNat ((0 : Int), ((0 : Int), ((List.replicate 32 (0 : Int)), (List.replicate 32 (0 : Int)))))).2.1, ((b_Slots.getD x.toNat ((0 : Int), ((0 : Int), ((List.replicate 32 (0 : Int)), (List.replicate 32 (0 : Int)))))).2.2.1, (b_Slots.getD x.toNat ((0 : Int), ((0 : Int), ((List.replicate 32 (0 : Int)), (List.replicate 32 (0 : Int)))))).2.2.2))) ((0 : Int), ((0 : Int), ((List.replicate 32 (0 : Int)), (List.replicate 32 (0 : Int))))))) then (some (4 : Int)) else (k15_25 (IntKind.wrap .i64 (x + (1 : Int))))) else ((F16 n ((b_Slots.getD x.toNat ((0 : Int), ((0 : Int), ((List.replicate 32 (0 : Int)), (List.replicate 32 (0 : Int)))))).2.1) (1 : Int) (127 : Int)).bind fun y_4 => (bif (!y_4) then (F15_j27 n k15_25 b_Slots x true) else (bif ((((b_Slots.getD x.toNat ((0 : Int), ((0 : Int), ((List.replicate 32 (0 : Int)), (List.replicate 32 (0 : Int)))))).2.2.1).getD 0 (0 : Int)) != (0 : Int)) then (F15_j27 n k15_25 b_Slots x true) else (bif ((((b_Slots.getD x.toNat ((0 : Int), ((0 : Int), ((List.replicate 32 (0 : Int)), (List.replicate 32 (0 : Int)))))).2.2.1).getD 1 (0 : Int)) == (0 : Int)) then (F15_j27 n k15_25 b_Slots x true) else ((F65 n ((b_Slots.getD x.toNat ((0 : Int), ((0 : Int), ((List.replicate 32 (0 : Int)), (List.replicate 32 (0 : Int)))))).1) ((b_Slots.getD x.toNat ((0 : Int), ((0 : Int), ((List.replicate 32 (0 : Int)), (List.replicate 32 (0 : Int)))))).2.1) ((b_Slots.getD x.toNat ((0 : Int), ((0 : Int), ((List.replicate 32 (0 : Int)), (List.replicate 32 (0 : Int)))))).2.2.1) ((b_Slots.getD x.toNat ((0 : Int), ((0 : Int), ((List.replicate 32 (0 : Int)), (List.replicate 32 (0 : Int)))))).2.2.2) (2 : Int) (31 : Int)).bind fun y_5 => (F15_j27 n k15_25 b_Slots x (!(y_5 == ((b_Slots.getD x.toNat ((0 : Int), ((0 : Int), ((List.replicate 32 (0 : Int)), (List.replicate 32 (0 : Int)))))).1 == (3 : Int))))))))))))
def F15_l25 (n : Nat) (b_Slots : List (Int × Int × (List Int) × List Int)) (k15_25 : Int → Option Int) : Int → Option Int
  | x => (bif (decide (x < (9 : Int))) then (bif inb x 9 then (bif (x == (0 : Int)) then (bif (!(Sh.beq (.st (.pair (.int .i64) (.pair (.int .i64) (.pair (.arr 32 (.int .i64)) (.arr 32 (.int .i64)))))) ((b_Slots.getD x.toNat ((0 : Int), ((0 : Int), ((List.replicate 32 (0 : Int)), (List.replicate 32 (0 : Int)))))).1, ((b_Slots.getD x.toNat ((0 : Int), ((0 : Int), ((List.replicate 32 (0 : Int)), (List.replicate 32 (0 : Int)))))).2.1, ((b_Slots.getD x.toNat ((0 : Int), ((0 : Int), ((List.replicate 32 (0 : Int)), (List.replicate 32 (0 : Int)))))).2.2.1, (b_Slots.getD x.toNat ((0 : Int), ((0 : Int), ((List.replicate 32 (0 : Int)), (List.replicate 32 (0 : Int)))))).2.2.2))) ((0 : Int), ((0 : Int), ((List.replicate 32 (0 : Int)), (List.replicate 32 (0 : Int))))))) then (F15_j26 n k15_25 b_Slots x true) else ((F16 n ((b_Slots.getD x.toNat ((0 : Int), ((0 : Int), ((List.replicate 32 (0 : Int)), (List.replicate 32 (0 : Int)))))).1) (0 : Int) (3 : Int)).bind fun y_6 => (F15_j26 n k15_25 b_Slots x (!y_6)))) else ((F16 n ((b_Slots.getD x.toNat ((0 : Int), ((0 : Int), ((List.replicate 32 (0 : Int)), (List.replicate 32 (0 : Int)))))).1) (0 : Int) (3 : Int)).bind fun y_7 => (F15_j26 n k15_25 b_Slots x (!y_7)))) else none) else (some (0 : Int)))
def F15 (n : Nat) (b_Slots : List (Int × Int × (List Int) × List Int)) : Option Int := (loopF (F15_l25 n b_Slots) n (0 : Int))
theorem F15_ok (n : Nat) (b_Slots : List (Int × Int × (List Int) × List Int)) (r : Int) (h : F15 n b_Slots = some r) : PureC Try.prog 15 [(.st (.arr 9 (.st (.pair (.int .i64) (.pair (.int .i64) (.pair (.arr 32 (.int .i64)) (.arr 32 (.int .i64)))))) b_Slots))] (.int .i64 r) [] := by
  refine PureC.mkS Try.func15 rfl rfl ?_
  intro w0 fz0 hfz
  replace h : (loopF (F15_l25 n b_Slots) n (0 : Int)) = some r := h
  refine TS.seq ?_
  have hq : (True) ∧ ((True) ∧ (True)) := ⟨trivial, ⟨trivial, trivial⟩⟩
  refine TS.reg [] ?_ ?_
  · apply prop_of ?_ hq
    kernel_rfl
  refine XS.then ?_
  refine TS.seq ?_
  have hq : (True) ∧ ((True) ∧ ((True) ∧ (True))) := ⟨trivial, ⟨trivial, ⟨trivial, trivial⟩⟩⟩
  refine TS.reg [] ?_ ?_
  · apply prop_of ?_ hq
    kernel_rfl
  refine XS.then ?_
  refine TS.seq ?_
  refine TS.seq ?_
  have hq : (True) ∧ ((True) ∧ ((True) ∧ (True))) := ⟨trivial, ⟨trivial, ⟨trivial, trivial⟩⟩⟩
  refine TS.reg [] ?_ ?_
  · apply prop_of ?_ hq
    kernel_rfl
  refine XS.then ?_
  refine TS.block ?_
  refine TS.frzB 0 ?_
  refine TS.reLoop [1] (mkMask 107 [1, 3, 11, 12]) (D := Int) (fun d => match d with | x => (mkTs 107 [(1, (.pv (.st (.arr 9 (.st (.pair (.int .i64) (.pair (.int .i64) (.pair (.arr 32 (.int .i64)) (.arr 32 (.int .i64)))))) b_Slots)))), (3, (.ptr 0 [])), (11, (.arr 9 (.st (.pair (.int .i64) (.pair (.int .i64) (.pair (.arr 32 (.int .i64)) (.arr 32 (.int .i64)))))) b_Slots)), (12, (.int .i64 x))], [(.box 24 (.st (.cons (.int .i64 (0 : Int)) (.cons (.int .i64 (0 : Int)) (.cons (.arr 32 (.int .i64) (List.replicate 32 (0 : Int))) (.arr 32 (.int .i64) (List.replicate 32 (0 : Int))))))))])) (fun n' d => loopF (F15_l25 n b_Slots) n' d = some r) n (0 : Int) h ?_ (fun d => loopF_zero _ d r) ?_
  · kernel_rfl
  · rintro n25 x h
    replace h : (bif (decide (x < (9 : Int))) then (bif inb x 9 then (bif (x == (0 : Int)) then (bif (!(Sh.beq (.st (.pair (.int .i64) (.pair (.int .i64) (.pair (.arr 32 (.int .i64)) (.arr 32 (.int .i64)))))) ((b_Slots.getD x.toNat ((0 : Int), ((0 : Int), ((List.replicate 32 (0 : Int)), (List.replicate 32 (0 : Int)))))).1, ((b_Slots.getD x.toNat ((0 : Int), ((0 : Int), ((List.replicate 32 (0 : Int)), (List.replicate 32 (0 : Int)))))).2.1, ((b_Slots.getD x.toNat ((0 : Int), ((0 : Int), ((List.replicate 32 (0 : Int)), (List.replicate 32 (0 : Int)))))).2.2.1, (b_Slots.getD x.toNat ((0 : Int), ((0 : Int), ((List.replicate 32 (0 : Int)), (List.replicate 32 (0 : Int)))))).2.2.2))) ((0 : Int), ((0 : Int), ((List.replicate 32 (0 : Int)), (List.replicate 32 (0 : Int))))))) then (F15_j26 n (loopF (F15_l25 n b_Slots) n25) b_Slots x true) else ((F16 n ((b_Slots.getD x.toNat ((0 : Int), ((0 : Int), ((List.replicate 32 (0 : Int)), (List.replicate 32 (0 : Int)))))).1) (0 : Int) (3 : Int)).bind fun y_6 => (F15_j26 n (loopF (F15_l25 n b_Slots) n25) b_Slots x (!y_6)))) else ((F16 n ((b_Slots.getD x.toNat ((0 : Int), ((0 : Int), ((List.replicate 32 (0 : Int)), (List.replicate 32 (0 : Int)))))).1) (0 : Int) (3 : Int)).bind fun y_7 => (F15_j26 n (loopF (F15_l25 n b_Slots) n25) b_Slots x (!y_7)))) else none) else (some (0 : Int))) = some r := h
    refine TS.seq ?_
    have hq : (True) ∧ (True) := ⟨trivial, trivial⟩
    refine TS.reg [] ?_ ?_
    · apply prop_of ?_ hq
      kernel_rfl
    refine XS.then ?_
    refine TS.seq ?_
    rcases bif_some h with ⟨c1, h⟩ | ⟨c2, h⟩
    · refine TS.cond (decide (x < (9 : Int))) ?_ (fun e => ?_) (fun e => by rw [c1] at e; cases e)
      · kernel_rfl
      refine TS.skip ?_
      refine XS.then ?_
      refine TS.seq ?_
      refine TS.block ?_
      refine TS.seq ?_
      obtain ⟨t3, h⟩ := test_some h
      have hq : (True) ∧ ((inR x 9) ∧ ((True) ∧ ((True) ∧ ((True) ∧ (True))))) := ⟨trivial, ⟨inb_ok t3, ⟨trivial, ⟨trivial, ⟨trivial, trivial⟩⟩⟩⟩⟩
      refine TS.reg [] ?_ ?_
      · apply prop_of ?_ hq
        kernel_rfl
      refine XS.then ?_
      refine TS.seq ?_
      refine TS.seq ?_
      refine TS.cut (D := Bool) (fun d => match d with | x_2 => (mkTs 107 [(1, (.pv (.st (.arr 9 (.st (.pair (.int .i64) (.pair (.int .i64) (.pair (.arr 32 (.int .i64)) (.arr 32 (.int .i64)))))) b_Slots)))), (3, (.ptr 0 [])), (4, (.int .i64 x)), (5, (.ptr 1 [])), (11, (.arr 9 (.st (.pair (.int .i64) (.pair (.int .i64) (.pair (.arr 32 (.int .i64)) (.arr 32 (.int .i64)))))) b_Slots)), (12, (.int .i64 x)), (28, (.bool x_2))], [(.box 24 (.st (.cons (.int .i64 (0 : Int)) (.cons (.int .i64 (0 : Int)) (.cons (.arr 32 (.int .i64) (List.replicate 32 (0 : Int))) (.arr 32 (.int .i64) (List.replicate 32 (0 : Int)))))))), (.box 24 (.st (.cons (.int .i64 (b_Slots.getD x.toNat ((0 : Int), ((0 : Int), ((List.replicate 32 (0 : Int)), (List.replicate 32 (0 : Int)))))).1) (.cons (.int .i64 (b_Slots.getD x.toNat ((0 : Int), ((0 : Int), ((List.replicate 32 (0 : Int)), (List.replicate 32 (0 : Int)))))).2.1) (.cons (.arr 32 (.int .i64) (b_Slots.getD x.toNat ((0 : Int), ((0 : Int), ((List.replicate 32 (0 : Int)), (List.replicate 32 (0 : Int)))))).2.2.1) (.arr 32 (.int .i64) (b_Slots.getD x.toNat ((0 : Int), ((0 : Int), ((List.replicate 32 (0 : Int)), (List.replicate 32 (0 : Int)))))).2.2.2))))))])) (fun d => F15_j26 n (loopF (F15_l25 n b_Slots) n25) b_Slots x d = some r) ?_ ?_
      · rintro x_2 h
        replace h : (bif x_2 then (some (4 : Int)) else (bif (decide ((b_Slots.getD x.toNat ((0 : Int), ((0 : Int), ((List.replicate 32 (0 : Int)), (List.replicate 32 (0 : Int)))))).1 < (2 : Int))) then (bif (!(Sh.beq (.st (.pair (.int .i64) (.pair (.int .i64) (.pair (.arr 32 (.int .i64)) (.arr 32 (.int .i64)))))) ((0 : Int), ((b_Slots.getD x.toNat ((0 : Int), ((0 : Int), ((List.replicate 32 (0 : Int)), (List.replicate 32 (0 : Int)))))).2.1, ((b_Slots.getD x.toNat ((0 : Int), ((0 : Int), ((List.replicate 32 (0 : Int)), (List.replicate 32 (0 : Int)))))).2.2.1, (b_Slots.getD x.toNat ((0 : Int), ((0 : Int), ((List.replicate 32 (0 : Int)), (List.replicate 32 (0 : Int)))))).2.2.2))) ((0 : Int), ((0 : Int), ((List.replicate 32 (0 : Int)), (List.replicate 32 (0 : Int))))))) then (some (4 : Int)) else ((loopF (F15_l25 n b_Slots) n25) (IntKind.wrap .i64 (x + (1 : Int))))) else ((F16 n ((b_Slots.getD x.toNat ((0 : Int), ((0 : Int), ((List.replicate 32 (0 : Int)), (List.replicate 32 (0 : Int)))))).2.1) (1 : Int) (127 : Int)).bind fun y_4 => (bif (!y_4) then (F15_j27 n (loopF (F15_l25 n b_Slots) n25) b_Slots x true) else (bif ((((b_Slots.getD x.toNat ((0 : Int), ((0 : Int), ((List.replicate 32 (0 : Int)), (List.replicate 32 (0 : Int)))))).2.2.1).getD 0 (0 : Int)) != (0 : Int)) then (F15_j27 n (loopF (F15_l25 n b_Slots) n25) b_Slots x true) else (bif ((((b_Slots.getD x.toNat ((0 : Int), ((0 : Int), ((List.replicate 32 (0 : Int)), (List.replicate 32 (0 : Int)))))).2.2.1).getD 1 (0 : Int)) == (0 : Int)) then (F15_j27 n (loopF (F15_l25 n b_Slots) n25) b_Slots x true) else ((F65 n ((b_Slots.getD x.toNat ((0 : Int), ((0 : Int), ((List.replicate 32 (0 : Int)), (List.replicate 32 (0 : Int)))))).1) ((b_Slots.getD x.toNat ((0 : Int), ((0 : Int), ((List.replicate 32 (0 : Int)), (List.replicate 32 (0 : Int)))))).2.1) ((b_Slots.getD x.toNat ((0 : Int), ((0 : Int), ((List.replicate 32 (0 : Int)), (List.replicate 32 (0 : Int)))))).2.2.1) ((b_Slots.getD x.toNat ((0 : Int), ((0 : Int), ((List.replicate 32 (0 : Int)), (List.replicate 32 (0 : Int)))))).2.2.2) (2 : Int) (31 : Int)).bind fun y_5 => (F15_j27 n (loopF (F15_l25 n b_Slots) n25) b_Slots x (!(y_5 == ((b_Slots.getD x.toNat ((0 : Int), ((0 : Int), ((List.replicate 32 (0 : Int)), (List.replicate 32 (0 : Int)))))).1 == (3 : Int)))))))))))) = some r := h
        refine XS.then ?_
        rcases bif_some h with ⟨c4, h⟩ | ⟨c5, h⟩
        · refine TS.cond x_2 ?_ (fun e => ?_) (fun e => by rw [c4] at e; cases e)
          · kernel_rfl
          refine TS.seq ?_
          have hq : (True) ∧ (True) := ⟨trivial, trivial⟩
          refine TS.reg [] ?_ ?_
          · apply prop_of ?_ hq
            kernel_rfl
          refine XS.then ?_
          refine TS.ret ?_
          refine XS.passR ?_
          refine XS.blockRet ?_
          refine XS.passR ?_
          refine XS.passR ?_
          refine XS.blockRet ?_
          refine XS.passR ?_
          obtain rfl : (4 : Int) = r := Option.some.inj h
          exact XS.fin [] ((True) ∧ (True)) (by kernel_rfl) ⟨trivial, trivial⟩
        · refine TS.cond x_2 ?_ (fun e => by rw [c5] at e; cases e) (fun e => ?_)
          · kernel_rfl
          refine TS.skip ?_
          refine XS.then ?_
          refine TS.seq ?_
          refine TS.seq ?_
          have hq : (True) ∧ ((True) ∧ ((True) ∧ (True))) := ⟨trivial, ⟨trivial, ⟨trivial, trivial⟩⟩⟩
          refine TS.reg [] ?_ ?_
          · apply prop_of ?_ hq
            kernel_rfl
          refine XS.then ?_
          rcases bif_some h with ⟨c6, h⟩ | ⟨c7, h⟩
          · refine TS.cond (decide ((b_Slots.getD x.toNat ((0 : Int), ((0 : Int), ((List.replicate 32 (0 : Int)), (List.replicate 32 (0 : Int)))))).1 < (2 : Int))) ?_ (fun e => ?_) (fun e => by rw [c6] at e; cases e)
            · kernel_rfl
            refine TS.seq ?_
            have hq : (True) ∧ ((True) ∧ (True)) := ⟨trivial, ⟨trivial, trivial⟩⟩
            refine TS.reg [] ?_ ?_
            · apply prop_of ?_ hq
              kernel_rfl
            refine XS.then ?_
            refine TS.seq ?_
            refine TS.seq ?_
            have hq : (True) ∧ ((True) ∧ ((True) ∧ (True))) := ⟨trivial, ⟨trivial, ⟨trivial, trivial⟩⟩⟩
            refine TS.reg [] ?_ ?_
            · apply prop_of ?_ hq
              kernel_rfl
            refine XS.then ?_
            rcases bif_some h with ⟨c8, h⟩ | ⟨c9, h⟩
            · refine TS.cond (!(Sh.beq (.st (.pair (.int .i64) (.pair (.int .i64) (.pair (.arr 32 (.int .i64)) (.arr 32 (.int .i64)))))) ((0 : Int), ((b_Slots.getD x.toNat ((0 : Int), ((0 : Int), ((List.replicate 32 (0 : Int)), (List.replicate 32 (0 : Int)))))).2.1, ((b_Slots.getD x.toNat ((0 : Int), ((0 : Int), ((List.replicate 32 (0 : Int)), (List.replicate 32 (0 : Int)))))).2.2.1, (b_Slots.getD x.toNat ((0 : Int), ((0 : Int), ((List.replicate 32 (0 : Int)), (List.replicate 32 (0 : Int)))))).2.2.2))) ((0 : Int), ((0 : Int), ((List.replicate 32 (0 : Int)), (List.replicate 32 (0 : Int))))))) ?_ (fun e => ?_) (fun e => by rw [c8] at e; cases e)
              · kernel_rfl
              refine TS.seq ?_
              have hq : (True) ∧ (True) := ⟨trivial, trivial⟩
              refine TS.reg [] ?_ ?_
              · apply prop_of ?_ hq
                kernel_rfl
              refine XS.then ?_
              refine TS.ret ?_
              refine XS.passR ?_
              refine XS.passR ?_
              refine XS.blockRet ?_
              refine XS.passR ?_
              refine XS.passR ?_
              refine XS.blockRet ?_
              refine XS.passR ?_
              obtain rfl : (4 : Int) = r := Option.some.inj h
              exact XS.fin [] ((True) ∧ (True)) (by kernel_rfl) ⟨trivial, trivial⟩
            · refine TS.cond (!(Sh.beq (.st (.pair (.int .i64) (.pair (.int .i64) (.pair (.arr 32 (.int .i64)) (.arr 32 (.int .i64)))))) ((0 : Int), ((b_Slots.getD x.toNat ((0 : Int), ((0 : Int), ((List.replicate 32 (0 : Int)), (List.replicate 32 (0 : Int)))))).2.1, ((b_Slots.getD x.toNat ((0 : Int), ((0 : Int), ((List.replicate 32 (0 : Int)), (List.replicate 32 (0 : Int)))))).2.2.1, (b_Slots.getD x.toNat ((0 : Int), ((0 : Int), ((List.replicate 32 (0 : Int)), (List.replicate 32 (0 : Int)))))).2.2.2))) ((0 : Int), ((0 : Int), ((List.replicate 32 (0 : Int)), (List.replicate 32 (0 : Int))))))) ?_ (fun e => by rw [c9] at e; cases e) (fun e => ?_)
              · kernel_rfl
              refine TS.skip ?_
              refine XS.then ?_
              refine TS.exit ?_
              refine XS.passE ?_
              refine XS.out ?_
              refine XS.then ?_
              have hq : (True) ∧ ((True) ∧ (True)) := ⟨trivial, ⟨trivial, trivial⟩⟩
              refine TS.reg [] ?_ ?_
              · apply prop_of ?_ hq
                kernel_rfl
              refine XS.reAny [0] (mkMask 107 [1, 3, 11, 12]) (IntKind.wrap .i64 (x + (1 : Int))) h ?_
              kernel_rfl
          · refine TS.cond (decide ((b_Slots.getD x.toNat ((0 : Int), ((0 : Int), ((List.replicate 32 (0 : Int)), (List.replicate 32 (0 : Int)))))).1 < (2 : Int))) ?_ (fun e => by rw [c7] at e; cases e) (fun e => ?_)
            · kernel_rfl
            refine TS.skip ?_
            refine XS.then ?_
            refine TS.seq ?_
            refine TS.seq ?_
            refine TS.cut (D := Bool) (fun d => match d with | x_3 => (mkTs 107 [(1, (.pv (.st (.arr 9 (.st (.pair (.int .i64) (.pair (.int .i64) (.pair (.arr 32 (.int .i64)) (.arr 32 (.int .i64)))))) b_Slots)))), (3, (.ptr 0 [])), (4, (.int .i64 x)), (5, (.ptr 1 [])), (11, (.arr 9 (.st (.pair (.int .i64) (.pair (.int .i64) (.pair (.arr 32 (.int .i64)) (.arr 32 (.int .i64)))))) b_Slots)), (12, (.int .i64 x)), (59, (.bool x_3))], [(.box 24 (.st (.cons (.int .i64 (0 : Int)) (.cons (.int .i64 (0 : Int)) (.cons (.arr 32 (.int .i64) (List.replicate 32 (0 : Int))) (.arr 32 (.int .i64) (List.replicate 32 (0 : Int)))))))), (.box 24 (.st (.cons (.int .i64 (b_Slots.getD x.toNat ((0 : Int), ((0 : Int), ((List.replicate 32 (0 : Int)), (List.replicate 32 (0 : Int)))))).1) (.cons (.int .i64 (b_Slots.getD x.toNat ((0 : Int), ((0 : Int), ((List.replicate 32 (0 : Int)), (List.replicate 32 (0 : Int)))))).2.1) (.cons (.arr 32 (.int .i64) (b_Slots.getD x.toNat ((0 : Int), ((0 : Int), ((List.replicate 32 (0 : Int)), (List.replicate 32 (0 : Int)))))).2.2.1) (.arr 32 (.int .i64) (b_Slots.getD x.toNat ((0 : Int), ((0 : Int), ((List.replicate 32 (0 : Int)), (List.replicate 32 (0 : Int)))))).2.2.2))))))])) (fun d => F15_j27 n (loopF (F15_l25 n b_Slots) n25) b_Slots x d = some r) ?_ ?_
            · rintro x_3 h
              replace h : (bif x_3 then (some (4 : Int)) else (loopF (F15_l29 n (loopF (F15_l25 n b_Slots) n25) b_Slots x) n (0 : Int))) = some r := h
              refine XS.then ?_
              rcases bif_some h with ⟨c10, h⟩ | ⟨c11, h⟩
              · refine TS.cond x_3 ?_ (fun e => ?_) (fun e => by rw [c10] at e; cases e)
                · kernel_rfl
                refine TS.seq ?_
                have hq : (True) ∧ (True) := ⟨trivial, trivial⟩
                refine TS.reg [] ?_ ?_
                · apply prop_of ?_ hq
                  kernel_rfl
                refine XS.then ?_
                refine TS.ret ?_
                refine XS.passR ?_
                refine XS.blockRet ?_
                refine XS.passR ?_
                refine XS.passR ?_
                refine XS.blockRet ?_
                refine XS.passR ?_
                obtain rfl : (4 : Int) = r := Option.some.inj h
                exact XS.fin [] ((True) ∧ (True)) (by kernel_rfl) ⟨trivial, trivial⟩
              · refine TS.cond x_3 ?_ (fun e => by rw [c11] at e; cases e) (fun e => ?_)
                · kernel_rfl
                refine TS.skip ?_
                refine XS.then ?_
                refine TS.seq ?_
                refine TS.seq ?_
                have hq : (True) ∧ (True) := ⟨trivial, trivial⟩
                refine TS.reg [] ?_ ?_
                · apply prop_of ?_ hq
                  kernel_rfl
                refine XS.then ?_
                refine TS.block ?_
                refine TS.reLoop [0, 1] (mkMask 107 [1, 3, 4, 5, 11, 12, 60]) (D := Int) (fun d => match d with | x_4 => (mkTs 107 [(1, (.pv (.st (.arr 9 (.st (.pair (.int .i64) (.pair (.int .i64) (.pair (.arr 32 (.int .i64)) (.arr 32 (.int .i64)))))) b_Slots)))), (3, (.ptr 0 [])), (4, (.int .i64 x)), (5, (.ptr 1 [])), (11, (.arr 9 (.st (.pair (.int .i64) (.pair (.int .i64) (.pair (.arr 32 (.int .i64)) (.arr 32 (.int .i64)))))) b_Slots)), (12, (.int .i64 x)), (60, (.int .i64 x_4))], [(.box 24 (.st (.cons (.int .i64 (0 : Int)) (.cons (.int .i64 (0 : Int)) (.cons (.arr 32 (.int .i64) (List.replicate 32 (0 : Int))) (.arr 32 (.int .i64) (List.replicate 32 (0 : Int)))))))), (.box 24 (.st (.cons (.int .i64 (b_Slots.getD x.toNat ((0 : Int), ((0 : Int), ((List.replicate 32 (0 : Int)), (List.replicate 32 (0 : Int)))))).1) (.cons (.int .i64 (b_Slots.getD x.toNat ((0 : Int), ((0 : Int), ((List.replicate 32 (0 : Int)), (List.replicate 32 (0 : Int)))))).2.1) (.cons (.arr 32 (.int .i64) (b_Slots.getD x.toNat ((0 : Int), ((0 : Int), ((List.replicate 32 (0 : Int)), (List.replicate 32 (0 : Int)))))).2.2.1) (.arr 32 (.int .i64) (b_Slots.getD x.toNat ((0 : Int), ((0 : Int), ((List.replicate 32 (0 : Int)), (List.replicate 32 (0 : Int)))))).2.2.2))))))])) (fun n' d => loopF (F15_l29 n (loopF (F15_l25 n b_Slots) n25) b_Slots x) n' d = some r) n (0 : Int) h ?_ (fun d => loopF_zero _ d r) ?_
                · kernel_rfl
                · rintro n29 x_4 h
                  replace h : (bif (decide (x_4 < (32 : Int))) then (bif inb x_4 32 then ((F16 n (((b_Slots.getD x.toNat ((0 : Int), ((0 : Int), ((List.replicate 32 (0 : Int)), (List.replicate 32 (0 : Int)))))).2.2.1).getD x_4.toNat (0 : Int)) (0 : Int) (3 : Int)).bind fun y_2 => (bif (!y_2) then (some (4 : Int)) else ((F16 n (((b_Slots.getD x.toNat ((0 : Int), ((0 : Int), ((List.replicate 32 (0 : Int)), (List.replicate 32 (0 : Int)))))).2.2.2).getD x_4.toNat (0 : Int)) (0 : Int) (65535 : Int)).bind fun y_3 => (bif (!y_3) then (some (4 : Int)) else (bif ((((b_Slots.getD x.toNat ((0 : Int), ((0 : Int), ((List.replicate 32 (0 : Int)), (List.replicate 32 (0 : Int)))))).2.2.1).getD x_4.toNat (0 : Int)) == (0 : Int)) then (bif ((((b_Slots.getD x.toNat ((0 : Int), ((0 : Int), ((List.replicate 32 (0 : Int)), (List.replicate 32 (0 : Int)))))).2.2.2).getD x_4.toNat (0 : Int)) != (0 : Int)) then (some (4 : Int)) else ((loopF (F15_l29 n (loopF (F15_l25 n b_Slots) n25) b_Slots x) n29) (IntKind.wrap .i64 (x_4 + (1 : Int))))) else ((loopF (F15_l29 n (loopF (F15_l25 n b_Slots) n25) b_Slots x) n29) (IntKind.wrap .i64 (x_4 + (1 : Int))))))))) else none) else (bif subB b_Slots.length none (some x) then (loopF (F15_l30 n (loopF (F15_l25 n b_Slots) n25) b_Slots x) n (0 : Int)) else none)) = some r := h
                  refine TS.seq ?_
                  have hq : (True) ∧ (True) := ⟨trivial, trivial⟩
                  refine TS.reg [] ?_ ?_
                  · apply prop_of ?_ hq
                    kernel_rfl
                  refine XS.then ?_
                  refine TS.seq ?_
                  rcases bif_some h with ⟨c12, h⟩ | ⟨c13, h⟩
                  · refine TS.cond (decide (x_4 < (32 : Int))) ?_ (fun e => ?_) (fun e => by rw [c12] at e; cases e)
                    · kernel_rfl
                    refine TS.skip ?_
                    refine XS.then ?_
                    refine TS.seq ?_
                    refine TS.block ?_
                    refine TS.seq ?_
                    have hq : (True) ∧ ((True) ∧ (True)) := ⟨trivial, ⟨trivial, trivial⟩⟩
                    refine TS.reg [] ?_ ?_
                    · apply prop_of ?_ hq
                      kernel_rfl
                    refine XS.then ?_
                    refine TS.seq ?_
                    obtain ⟨t14, h⟩ := test_some h
                    obtain ⟨y_2, hx15, h⟩ := bind_some' h
                    rcases bif_some h with ⟨c16, h⟩ | ⟨c17, h⟩
                    · have hq : (True) ∧ ((True) ∧ ((inR x_4 32) ∧ ((x_4.toNat < 32 ∧ (True)) ∧ ((PureC Try.prog 16 [(.int .i64 (((b_Slots.getD x.toNat ((0 : Int), ((0 : Int), ((List.replicate 32 (0 : Int)), (List.replicate 32 (0 : Int)))))).2.2.1).getD x_4.toNat (0 : Int))), (.int .i64 (0 : Int)), (.int .i64 (3 : Int))] (.bool y_2) []) ∧ ((True) ∧ (((True) ∧ (!y_2) = true) ∧ ((True) ∧ ((True) ∧ ((True) ∧ (True)))))))))) := ⟨trivial, ⟨trivial, ⟨inb_ok t14, ⟨⟨inR_lt (inb_ok t14), trivial⟩, ⟨F16_ok n (((b_Slots.getD x.toNat ((0 : Int), ((0 : Int), ((List.replicate 32 (0 : Int)), (List.replicate 32 (0 : Int)))))).2.2.1).getD x_4.toNat (0 : Int)) (0 : Int) (3 : Int) y_2 hx15, ⟨trivial, ⟨⟨trivial, c16⟩, ⟨trivial, ⟨trivial, ⟨trivial, trivial⟩⟩⟩⟩⟩⟩⟩⟩⟩⟩
                      refine TS.reg [.none, .none, .none, .none, (.call (.bool y_2) []), .none, .dec true] ?_ ?_
                      · apply prop_of ?_ hq
                        kernel_rfl
                      refine XS.then ?_
                      refine TS.yes ?_ ?_
                      · kernel_rfl
                      refine TS.seq ?_
                      have hq : (True) ∧ (True) := ⟨trivial, trivial⟩
                      refine TS.reg [] ?_ ?_
                      · apply prop_of ?_ hq
                        kernel_rfl
                      refine XS.then ?_
                      refine TS.ret ?_
                      refine XS.blockRet ?_
                      refine XS.passR ?_
                      refine XS.passR ?_
                      refine XS.blockRet ?_
                      refine XS.passR ?_
                      refine XS.blockRet ?_
                      refine XS.passR ?_
                      refine XS.passR ?_
                      refine XS.blockRet ?_
                      refine XS.passR ?_
                      obtain rfl : (4 : Int) = r := Option.some.inj h
                      exact XS.fin [] ((True) ∧ (True)) (by kernel_rfl) ⟨trivial, trivial⟩
                    · obtain ⟨y_3, hx18, h⟩ := bind_some' h
                      rcases bif_some h with ⟨c19, h⟩ | ⟨c20, h⟩
                      · have hq : (True) ∧ ((True) ∧ ((inR x_4 32) ∧ ((x_4.toNat < 32 ∧ (True)) ∧ ((PureC Try.prog 16 [(.int .i64 (((b_Slots.getD x.toNat ((0 : Int), ((0 : Int), ((List.replicate 32 (0 : Int)), (List.replicate 32 (0 : Int)))))).2.2.1).getD x_4.toNat (0 : Int))), (.int .i64 (0 : Int)), (.int .i64 (3 : Int))] (.bool y_2) []) ∧ ((True) ∧ (((True) ∧ (!y_2) = false) ∧ ((True) ∧ ((True) ∧ ((inR x_4 32) ∧ ((x_4.toNat < 32 ∧ (True)) ∧ ((PureC Try.prog 16 [(.int .i64 (((b_Slots.getD x.toNat ((0 : Int), ((0 : Int), ((List.replicate 32 (0 : Int)), (List.replicate 32 (0 : Int)))))).2.2.2).getD x_4.toNat (0 : Int))), (.int .i64 (0 : Int)), (.int .i64 (65535 : Int))] (.bool y_3) []) ∧ ((True) ∧ ((True) ∧ (((True) ∧ (!y_3) = true) ∧ ((True) ∧ (True)))))))))))))))) := ⟨trivial, ⟨trivial, ⟨inb_ok t14, ⟨⟨inR_lt (inb_ok t14), trivial⟩, ⟨F16_ok n (((b_Slots.getD x.toNat ((0 : Int), ((0 : Int), ((List.replicate 32 (0 : Int)), (List.replicate 32 (0 : Int)))))).2.2.1).getD x_4.toNat (0 : Int)) (0 : Int) (3 : Int) y_2 hx15, ⟨trivial, ⟨⟨trivial, c17⟩, ⟨trivial, ⟨trivial, ⟨inb_ok t14, ⟨⟨inR_lt (inb_ok t14), trivial⟩, ⟨F16_ok n (((b_Slots.getD x.toNat ((0 : Int), ((0 : Int), ((List.replicate 32 (0 : Int)), (List.replicate 32 (0 : Int)))))).2.2.2).getD x_4.toNat (0 : Int)) (0 : Int) (65535 : Int) y_3 hx18, ⟨trivial, ⟨trivial, ⟨⟨trivial, c19⟩, ⟨trivial, trivial⟩⟩⟩⟩⟩⟩⟩⟩⟩⟩⟩⟩⟩⟩⟩⟩
                        refine TS.reg [.none, .none, .none, .none, (.call (.bool y_2) []), .none, .dec false, .none, .none, .none, .none, (.call (.bool y_3) []), .none, .none, .dec true] ?_ ?_
                        · apply prop_of ?_ hq
                          kernel_rfl
                        refine XS.then ?_
                        refine TS.yes ?_ ?_
                        · kernel_rfl
                        refine TS.seq ?_
                        have hq : (True) ∧ (True) := ⟨trivial, trivial⟩
                        refine TS.reg [] ?_ ?_
                        · apply prop_of ?_ hq
                          kernel_rfl
                        refine XS.then ?_
                        refine TS.ret ?_
                        refine XS.blockRet ?_
                        refine XS.passR ?_
                        refine XS.passR ?_
                        refine XS.blockRet ?_
                        refine XS.passR ?_
                        refine XS.blockRet ?_
                        refine XS.passR ?_
                        refine XS.passR ?_
                        refine XS.blockRet ?_
                        refine XS.passR ?_
                        obtain rfl : (4 : Int) = r := Option.some.inj h
                        exact XS.fin [] ((True) ∧ (True)) (by kernel_rfl) ⟨trivial, trivial⟩
                      · rcases bif_some h with ⟨c21, h⟩ | ⟨c22, h⟩
                        · have hq : (True) ∧ ((True) ∧ ((inR x_4 32) ∧ ((x_4.toNat < 32 ∧ (True)) ∧ ((PureC Try.prog 16 [(.int .i64 (((b_Slots.getD x.toNat ((0 : Int), ((0 : Int), ((List.replicate 32 (0 : Int)), (List.replicate 32 (0 : Int)))))).2.2.1).getD x_4.toNat (0 : Int))), (.int .i64 (0 : Int)), (.int .i64 (3 : Int))] (.bool y_2) []) ∧ ((True) ∧ (((True) ∧ (!y_2) = false) ∧ ((True) ∧ ((True) ∧ ((inR x_4 32) ∧ ((x_4.toNat < 32 ∧ (True)) ∧ ((PureC Try.prog 16 [(.int .i64 (((b_Slots.getD x.toNat ((0 : Int), ((0 : Int), ((List.replicate 32 (0 : Int)), (List.replicate 32 (0 : Int)))))).2.2.2).getD x_4.toNat (0 : Int))), (.int .i64 (0 : Int)), (.int .i64 (65535 : Int))] (.bool y_3) []) ∧ ((True) ∧ ((True) ∧ (((True) ∧ (!y_3) = false) ∧ ((True) ∧ ((True) ∧ ((inR x_4 32) ∧ ((x_4.toNat < 32 ∧ (True)) ∧ ((True) ∧ (((True) ∧ ((((b_Slots.getD x.toNat ((0 : Int), ((0 : Int), ((List.replicate 32 (0 : Int)), (List.replicate 32 (0 : Int)))))).2.2.1).getD x_4.toNat (0 : Int)) == (0 : Int)) = true) ∧ ((True) ∧ ((True) ∧ ((inR x_4 32) ∧ ((x_4.toNat < 32 ∧ (True)) ∧ ((True) ∧ ((True) ∧ ((True) ∧ (True)))))))))))))))))))))))))))) := ⟨trivial, ⟨trivial, ⟨inb_ok t14, ⟨⟨inR_lt (inb_ok t14), trivial⟩, ⟨F16_ok n (((b_Slots.getD x.toNat ((0 : Int), ((0 : Int), ((List.replicate 32 (0 : Int)), (List.replicate 32 (0 : Int)))))).2.2.1).getD x_4.toNat (0 : Int)) (0 : Int) (3 : Int) y_2 hx15, ⟨trivial, ⟨⟨trivial, c17⟩, ⟨trivial, ⟨trivial, ⟨inb_ok t14, ⟨⟨inR_lt (inb_ok t14), trivial⟩, ⟨F16_ok n (((b_Slots.getD x.toNat ((0 : Int), ((0 : Int), ((List.replicate 32 (0 : Int)), (List.replicate 32 (0 : Int)))))).2.2.2).getD x_4.toNat (0 : Int)) (0 : Int) (65535 : Int) y_3 hx18, ⟨trivial, ⟨trivial, ⟨⟨trivial, c20⟩, ⟨trivial, ⟨trivial, ⟨inb_ok t14, ⟨⟨inR_lt (inb_ok t14), trivial⟩, ⟨trivial, ⟨⟨trivial, c21⟩, ⟨trivial, ⟨trivial, ⟨inb_ok t14, ⟨⟨inR_lt (inb_ok t14), trivial⟩, ⟨trivial, ⟨trivial, ⟨trivial, trivial⟩⟩⟩⟩⟩⟩⟩⟩⟩⟩⟩⟩⟩⟩⟩⟩⟩⟩⟩⟩⟩⟩⟩⟩⟩⟩⟩⟩
                          refine TS.reg [.none, .none, .none, .none, (.call (.bool y_2) []), .none, .dec false, .none, .none, .none, .none, (.call (.bool y_3) []), .none, .none, .dec false, .none, .none, .none, .none, .none, .dec true] ?_ ?_
                          · apply prop_of ?_ hq
                            kernel_rfl
                          refine XS.then ?_
                          rcases bif_some h with ⟨c23, h⟩ | ⟨c24, h⟩
                          · refine TS.cond ((((b_Slots.getD x.toNat ((0 : Int), ((0 : Int), ((List.replicate 32 (0 : Int)), (List.replicate 32 (0 : Int)))))).2.2.2).getD x_4.toNat (0 : Int)) != (0 : Int)) ?_ (fun e => ?_) (fun e => by rw [c23] at e; cases e)
                            · kernel_rfl
                            refine TS.seq ?_
                            have hq : (True) ∧ (True) := ⟨trivial, trivial⟩
                            refine TS.reg [] ?_ ?_
                            · apply prop_of ?_ hq
                              kernel_rfl
                            refine XS.then ?_
                            refine TS.ret ?_
                            refine XS.blockRet ?_
                            refine XS.passR ?_
                            refine XS.passR ?_
                            refine XS.blockRet ?_
                            refine XS.passR ?_
                            refine XS.blockRet ?_
                            refine XS.passR ?_
                            refine XS.passR ?_
                            refine XS.blockRet ?_
                            refine XS.passR ?_
                            obtain rfl : (4 : Int) = r := Option.some.inj h
                            exact XS.fin [] ((True) ∧ (True)) (by kernel_rfl) ⟨trivial, trivial⟩
                          · refine TS.cond ((((b_Slots.getD x.toNat ((0 : Int), ((0 : Int), ((List.replicate 32 (0 : Int)), (List.replicate 32 (0 : Int)))))).2.2.2).getD x_4.toNat (0 : Int)) != (0 : Int)) ?_ (fun e => by rw [c24] at e; cases e) (fun e => ?_)
                            · kernel_rfl
                            refine TS.skip ?_
                            refine XS.blockEnd ?_
                            refine XS.then ?_
                            have hq : (True) ∧ ((True) ∧ (True)) := ⟨trivial, ⟨trivial, trivial⟩⟩
                            refine TS.reg [] ?_ ?_
                            · apply prop_of ?_ hq
                              kernel_rfl
                            refine XS.reAny [0, 1] (mkMask 107 [1, 3, 4, 5, 11, 12, 60]) (IntKind.wrap .i64 (x_4 + (1 : Int))) h ?_
                            kernel_rfl
                        · have hq : (True) ∧ ((True) ∧ ((inR x_4 32) ∧ ((x_4.toNat < 32 ∧ (True)) ∧ ((PureC Try.prog 16 [(.int .i64 (((b_Slots.getD x.toNat ((0 : Int), ((0 : Int), ((List.replicate 32 (0 : Int)), (List.replicate 32 (0 : Int)))))).2.2.1).getD x_4.toNat (0 : Int))), (.int .i64 (0 : Int)), (.int .i64 (3 : Int))] (.bool y_2) []) ∧ ((True) ∧ (((True) ∧ (!y_2) = false) ∧ ((True) ∧ ((True) ∧ ((inR x_4 32) ∧ ((x_4.toNat < 32 ∧ (True)) ∧ ((PureC Try.prog 16 [(.int .i64 (((b_Slots.getD x.toNat ((0 : Int), ((0 : Int), ((List.replicate 32 (0 : Int)), (List.replicate 32 (0 : Int)))))).2.2.2).getD x_4.toNat (0 : Int))), (.int .i64 (0 : Int)), (.int .i64 (65535 : Int))] (.bool y_3) []) ∧ ((True) ∧ ((True) ∧ (((True) ∧ (!y_3) = false) ∧ ((True) ∧ ((True) ∧ ((inR x_4 32) ∧ ((x_4.toNat < 32 ∧ (True)) ∧ ((True) ∧ (((True) ∧ ((((b_Slots.getD x.toNat ((0 : Int), ((0 : Int), ((List.replicate 32 (0 : Int)), (List.replicate 32 (0 : Int)))))).2.2.1).getD x_4.toNat (0 : Int)) == (0 : Int)) = false) ∧ ((True) ∧ ((True) ∧ (True))))))))))))))))))))))) := ⟨trivial, ⟨trivial, ⟨inb_ok t14, ⟨⟨inR_lt (inb_ok t14), trivial⟩, ⟨F16_ok n (((b_Slots.getD x.toNat ((0 : Int), ((0 : Int), ((List.replicate 32 (0 : Int)), (List.replicate 32 (0 : Int)))))).2.2.1).getD x_4.toNat (0 : Int)) (0 : Int) (3 : Int) y_2 hx15, ⟨trivial, ⟨⟨trivial, c17⟩, ⟨trivial, ⟨trivial, ⟨inb_ok t14, ⟨⟨inR_lt (inb_ok t14), trivial⟩, ⟨F16_ok n (((b_Slots.getD x.toNat ((0 : Int), ((0 : Int), ((List.replicate 32 (0 : Int)), (List.replicate 32 (0 : Int)))))).2.2.2).getD x_4.toNat (0 : Int)) (0 : Int) (65535 : Int) y_3 hx18, ⟨trivial, ⟨trivial, ⟨⟨trivial, c20⟩, ⟨trivial, ⟨trivial, ⟨inb_ok t14, ⟨⟨inR_lt (inb_ok t14), trivial⟩, ⟨trivial, ⟨⟨trivial, c22⟩, ⟨trivial, ⟨trivial, trivial⟩⟩⟩⟩⟩⟩⟩⟩⟩⟩⟩⟩⟩⟩⟩⟩⟩⟩⟩⟩⟩⟩⟩
                          refine TS.reg [.none, .none, .none, .none, (.call (.bool y_2) []), .none, .dec false, .none, .none, .none, .none, (.call (.bool y_3) []), .none, .none, .dec false, .none, .none, .none, .none, .none, .dec false] ?_ ?_
                          · apply prop_of ?_ hq
                            kernel_rfl
                          refine XS.then ?_
                          refine TS.no ?_ ?_
                          · kernel_rfl
                          refine TS.skip ?_
                          refine XS.blockEnd ?_
                          refine XS.then ?_
                          have hq : (True) ∧ ((True) ∧ (True)) := ⟨trivial, ⟨trivial, trivial⟩⟩
                          refine TS.reg [] ?_ ?_
                          · apply prop_of ?_ hq
                            kernel_rfl
                          refine XS.reAny [0, 1] (mkMask 107 [1, 3, 4, 5, 11, 12, 60]) (IntKind.wrap .i64 (x_4 + (1 : Int))) h ?_
                          kernel_rfl
                  · refine TS.cond (decide (x_4 < (32 : Int))) ?_ (fun e => by rw [c13] at e; cases e) (fun e => ?_)
                    · kernel_rfl
                    refine TS.exit ?_
                    refine XS.passE ?_
                    refine XS.passE ?_
                    refine XS.out ?_
                    refine XS.then ?_
                    refine TS.seq ?_
                    obtain ⟨t25, h⟩ := test_some h
                    have hq : (True) ∧ ((True) ∧ ((subC b_Slots.length none (some x)) ∧ ((True) ∧ ((True) ∧ (True))))) := ⟨trivial, ⟨trivial, ⟨subB_ok t25, ⟨trivial, ⟨trivial, trivial⟩⟩⟩⟩⟩
                    refine TS.reg [] ?_ ?_
                    · apply prop_of ?_ hq
                      kernel_rfl
                    refine XS.then ?_
                    refine TS.block ?_
                    refine TS.reLoop [0, 1] (mkMask 107 [1, 3, 5, 11, 12, 94, 95, 96]) (D := Int) (fun d => match d with | x_5 => (mkTs 107 [(1, (.pv (.st (.arr 9 (.st (.pair (.int .i64) (.pair (.int .i64) (.pair (.arr 32 (.int .i64)) (.arr 32 (.int .i64)))))) b_Slots)))), (3, (.ptr 0 [])), (5, (.ptr 1 [])), (11, (.arr 9 (.st (.pair (.int .i64) (.pair (.int .i64) (.pair (.arr 32 (.int .i64)) (.arr 32 (.int .i64)))))) b_Slots)), (12, (.int .i64 x)), (94, (.sl (.st (.pair (.int .i64) (.pair (.int .i64) (.pair (.arr 32 (.int .i64)) (.arr 32 (.int .i64)))))) (b_Slots.take x.toNat))), (95, (.int .i64 (((b_Slots.take x.toNat).length : Nat) : Int))), (96, (.int .i64 x_5))], [(.box 24 (.st (.cons (.int .i64 (0 : Int)) (.cons (.int .i64 (0 : Int)) (.cons (.arr 32 (.int .i64) (List.replicate 32 (0 : Int))) (.arr 32 (.int .i64) (List.replicate 32 (0 : Int)))))))), (.box 24 (.st (.cons (.int .i64 (b_Slots.getD x.toNat ((0 : Int), ((0 : Int), ((List.replicate 32 (0 : Int)), (List.replicate 32 (0 : Int)))))).1) (.cons (.int .i64 (b_Slots.getD x.toNat ((0 : Int), ((0 : Int), ((List.replicate 32 (0 : Int)), (List.replicate 32 (0 : Int)))))).2.1) (.cons (.arr 32 (.int .i64) (b_Slots.getD x.toNat ((0 : Int), ((0 : Int), ((List.replicate 32 (0 : Int)), (List.replicate 32 (0 : Int)))))).2.2.1) (.arr 32 (.int .i64) (b_Slots.getD x.toNat ((0 : Int), ((0 : Int), ((List.replicate 32 (0 : Int)), (List.replicate 32 (0 : Int)))))).2.2.2))))))])) (fun n' d => loopF (F15_l30 n (loopF (F15_l25 n b_Slots) n25) b_Slots x) n' d = some r) n (0 : Int) h ?_ (fun d => loopF_zero _ d r) ?_
                    · kernel_rfl
                    · rintro n30 x_5 h
                      replace h : (bif (decide (x_5 < (((b_Slots.take x.toNat).length : Nat) : Int))) then (bif inb x_5 ((b_Slots.take x.toNat).length) then (bif (((b_Slots.take x.toNat).getD x_5.toNat ((0 : Int), ((0 : Int), ((List.replicate 32 (0 : Int)), (List.replicate 32 (0 : Int)))))).2.1 == (b_Slots.getD x.toNat ((0 : Int), ((0 : Int), ((List.replicate 32 (0 : Int)), (List.replicate 32 (0 : Int)))))).2.1) then (some (4 : Int)) else ((loopF (F15_l30 n (loopF (F15_l25 n b_Slots) n25) b_Slots x) n30) (IntKind.wrap .i64 (x_5 + (1 : Int))))) else none) else ((loopF (F15_l25 n b_Slots) n25) (IntKind.wrap .i64 (x + (1 : Int))))) = some r := h
                      refine TS.seq ?_
                      have hq : (True) ∧ (True) := ⟨trivial, trivial⟩
                      refine TS.reg [] ?_ ?_
                      · apply prop_of ?_ hq
                        kernel_rfl
                      refine XS.then ?_
                      refine TS.seq ?_
                      rcases bif_some h with ⟨c26, h⟩ | ⟨c27, h⟩
                      · refine TS.cond (decide (x_5 < (((b_Slots.take x.toNat).length : Nat) : Int))) ?_ (fun e => ?_) (fun e => by rw [c26] at e; cases e)
                        · kernel_rfl
                        refine TS.skip ?_
                        refine XS.then ?_
                        refine TS.seq ?_
                        refine TS.block ?_
                        refine TS.seq ?_
                        obtain ⟨t28, h⟩ := test_some h
                        have hq : (inR x_5 ((b_Slots.take x.toNat).length)) ∧ ((True) ∧ ((True) ∧ ((True) ∧ (True)))) := ⟨inb_ok t28, ⟨trivial, ⟨trivial, ⟨trivial, trivial⟩⟩⟩⟩
                        refine TS.reg [] ?_ ?_
                        · apply prop_of ?_ hq
                          kernel_rfl
                        refine XS.then ?_
                        refine TS.seq ?_
                        have hq : (True) ∧ ((True) ∧ ((True) ∧ ((True) ∧ ((True) ∧ (True))))) := ⟨trivial, ⟨trivial, ⟨trivial, ⟨trivial, ⟨trivial, trivial⟩⟩⟩⟩⟩
                        refine TS.reg [] ?_ ?_
                        · apply prop_of ?_ hq
                          kernel_rfl
                        refine XS.then ?_
                        rcases bif_some h with ⟨c29, h⟩ | ⟨c30, h⟩
                        · refine TS.cond (((b_Slots.take x.toNat).getD x_5.toNat ((0 : Int), ((0 : Int), ((List.replicate 32 (0 : Int)), (List.replicate 32 (0 : Int)))))).2.1 == (b_Slots.getD x.toNat ((0 : Int), ((0 : Int), ((List.replicate 32 (0 : Int)), (List.replicate 32 (0 : Int)))))).2.1) ?_ (fun e => ?_) (fun e => by rw [c29] at e; cases e)
                          · kernel_rfl
                          refine TS.seq ?_
                          have hq : (True) ∧ (True) := ⟨trivial, trivial⟩
                          refine TS.reg [] ?_ ?_
                          · apply prop_of ?_ hq
                            kernel_rfl
                          refine XS.then ?_
                          refine TS.ret ?_
                          refine XS.blockRet ?_
                          refine XS.passR ?_
                          refine XS.passR ?_
                          refine XS.blockRet ?_
                          refine XS.blockRet ?_
                          refine XS.passR ?_
                          refine XS.passR ?_
                          refine XS.blockRet ?_
                          refine XS.passR ?_
                          obtain rfl : (4 : Int) = r := Option.some.inj h
                          exact XS.fin [] ((True) ∧ (True)) (by kernel_rfl) ⟨trivial, trivial⟩
                        · refine TS.cond (((b_Slots.take x.toNat).getD x_5.toNat ((0 : Int), ((0 : Int), ((List.replicate 32 (0 : Int)), (List.replicate 32 (0 : Int)))))).2.1 == (b_Slots.getD x.toNat ((0 : Int), ((0 : Int), ((List.replicate 32 (0 : Int)), (List.replicate 32 (0 : Int)))))).2.1) ?_ (fun e => by rw [c30] at e; cases e) (fun e => ?_)
                          · kernel_rfl
                          refine TS.skip ?_
                          refine XS.blockEnd ?_
                          refine XS.then ?_
                          have hq : (True) ∧ ((True) ∧ (True)) := ⟨trivial, ⟨trivial, trivial⟩⟩
                          refine TS.reg [] ?_ ?_
                          · apply prop_of ?_ hq
                            kernel_rfl
                          refine XS.reAny [0, 1] (mkMask 107 [1, 3, 5, 11, 12, 94, 95, 96]) (IntKind.wrap .i64 (x_5 + (1 : Int))) h ?_
                          kernel_rfl
                      · refine TS.cond (decide (x_5 < (((b_Slots.take x.toNat).length : Nat) : Int))) ?_ (fun e => by rw [c27] at e; cases e) (fun e => ?_)
                        · kernel_rfl
                        refine TS.exit ?_
                        refine XS.passE ?_
                        refine XS.passE ?_
                        refine XS.out ?_
                        refine XS.blockEnd ?_
                        refine XS.then ?_
                        have hq : (True) ∧ ((True) ∧ (True)) := ⟨trivial, ⟨trivial, trivial⟩⟩
                        refine TS.reg [] ?_ ?_
                        · apply prop_of ?_ hq
                          kernel_rfl
                        refine XS.reAny [0] (mkMask 107 [1, 3, 11, 12]) (IntKind.wrap .i64 (x + (1 : Int))) h ?_
                        kernel_rfl
            · obtain ⟨y_4, hx31, h⟩ := bind_some' h
              rcases bif_some h with ⟨c32, h⟩ | ⟨c33, h⟩
              · have hq : ((True) ∧ ((True) ∧ ((PureC Try.prog 16 [(.int .i64 (b_Slots.getD x.toNat ((0 : Int), ((0 : Int), ((List.replicate 32 (0 : Int)), (List.replicate 32 (0 : Int)))))).2.1), (.int .i64 (1 : Int)), (.int .i64 (127 : Int))] (.bool y_4) []) ∧ ((True) ∧ (((True) ∧ (!y_4) = true) ∧ ((True) ∧ ((True) ∧ ((True) ∧ ((True) ∧ ((True) ∧ (True))))))))))) ∧ (True) := ⟨⟨trivial, ⟨trivial, ⟨F16_ok n ((b_Slots.getD x.toNat ((0 : Int), ((0 : Int), ((List.replicate 32 (0 : Int)), (List.replicate 32 (0 : Int)))))).2.1) (1 : Int) (127 : Int) y_4 hx31, ⟨trivial, ⟨⟨trivial, c32⟩, ⟨trivial, ⟨trivial, ⟨trivial, ⟨trivial, ⟨trivial, trivial⟩⟩⟩⟩⟩⟩⟩⟩⟩⟩, trivial⟩
                refine TS.draw 24 [] [.none, .none, (.call (.bool y_4) []), .none, .dec true] (by kernel_rfl) ?_ ?_
                · apply prop_of ?_ hq
                  kernel_rfl
                refine XS.reAny [0, 1] (mkMask 107 [1, 3, 4, 5, 11, 12, 59]) true h ?_
                kernel_rfl
              · rcases bif_some h with ⟨c34, h⟩ | ⟨c35, h⟩
                · have hq : ((True) ∧ ((True) ∧ ((PureC Try.prog 16 [(.int .i64 (b_Slots.getD x.toNat ((0 : Int), ((0 : Int), ((List.replicate 32 (0 : Int)), (List.replicate 32 (0 : Int)))))).2.1), (.int .i64 (1 : Int)), (.int .i64 (127 : Int))] (.bool y_4) []) ∧ ((True) ∧ (((True) ∧ (!y_4) = false) ∧ ((True) ∧ ((inR (0 : Int) 32) ∧ ((0 < 32 ∧ (True)) ∧ ((True) ∧ ((True) ∧ (((True) ∧ ((((b_Slots.getD x.toNat ((0 : Int), ((0 : Int), ((List.replicate 32 (0 : Int)), (List.replicate 32 (0 : Int)))))).2.2.1).getD 0 (0 : Int)) != (0 : Int)) = true) ∧ ((True) ∧ ((True) ∧ ((True) ∧ (True))))))))))))))) ∧ (True) := ⟨⟨trivial, ⟨trivial, ⟨F16_ok n ((b_Slots.getD x.toNat ((0 : Int), ((0 : Int), ((List.replicate 32 (0 : Int)), (List.replicate 32 (0 : Int)))))).2.1) (1 : Int) (127 : Int) y_4 hx31, ⟨trivial, ⟨⟨trivial, c33⟩, ⟨trivial, ⟨⟨by decide, by decide⟩, ⟨⟨(by decide), trivial⟩, ⟨trivial, ⟨trivial, ⟨⟨trivial, c34⟩, ⟨trivial, ⟨trivial, ⟨trivial, trivial⟩⟩⟩⟩⟩⟩⟩⟩⟩⟩⟩⟩⟩⟩, trivial⟩
                  refine TS.draw 24 [] [.none, .none, (.call (.bool y_4) []), .none, .dec false, .none, .none, .none, .none, .none, .dec true] (by kernel_rfl) ?_ ?_
                  · apply prop_of ?_ hq
                    kernel_rfl
                  refine XS.reAny [0, 1] (mkMask 107 [1, 3, 4, 5, 11, 12, 59]) true h ?_
                  kernel_rfl
                · rcases bif_some h with ⟨c36, h⟩ | ⟨c37, h⟩
                  · have hq : ((True) ∧ ((True) ∧ ((PureC Try.prog 16 [(.int .i64 (b_Slots.getD x.toNat ((0 : Int), ((0 : Int), ((List.replicate 32 (0 : Int)), (List.replicate 32 (0 : Int)))))).2.1), (.int .i64 (1 : Int)), (.int .i64 (127 : Int))] (.bool y_4) []) ∧ ((True) ∧ (((True) ∧ (!y_4) = false) ∧ ((True) ∧ ((inR (0 : Int) 32) ∧ ((0 < 32 ∧ (True)) ∧ ((True) ∧ ((True) ∧ (((True) ∧ ((((b_Slots.getD x.toNat ((0 : Int), ((0 : Int), ((List.replicate 32 (0 : Int)), (List.replicate 32 (0 : Int)))))).2.2.1).getD 0 (0 : Int)) != (0 : Int)) = false) ∧ ((True) ∧ ((inR (1 : Int) 32) ∧ ((1 < 32 ∧ (True)) ∧ ((True) ∧ ((True) ∧ (((True) ∧ ((((b_Slots.getD x.toNat ((0 : Int), ((0 : Int), ((List.replicate 32 (0 : Int)), (List.replicate 32 (0 : Int)))))).2.2.1).getD 1 (0 : Int)) == (0 : Int)) = true) ∧ ((True) ∧ (True))))))))))))))))))) ∧ (True) := ⟨⟨trivial, ⟨trivial, ⟨F16_ok n ((b_Slots.getD x.toNat ((0 : Int), ((0 : Int), ((List.replicate 32 (0 : Int)), (List.replicate 32 (0 : Int)))))).2.1) (1 : Int) (127 : Int) y_4 hx31, ⟨trivial, ⟨⟨trivial, c33⟩, ⟨trivial, ⟨⟨by decide, by decide⟩, ⟨⟨(by decide), trivial⟩, ⟨trivial, ⟨trivial, ⟨⟨trivial, c35⟩, ⟨trivial, ⟨⟨by decide, by decide⟩, ⟨⟨(by decide), trivial⟩, ⟨trivial, ⟨trivial, ⟨⟨trivial, c36⟩, ⟨trivial, trivial⟩⟩⟩⟩⟩⟩⟩⟩⟩⟩⟩⟩⟩⟩⟩⟩⟩⟩, trivial⟩
                    refine TS.draw 24 [] [.none, .none, (.call (.bool y_4) []), .none, .dec false, .none, .none, .none, .none, .none, .dec false, .none, .none, .none, .none, .none, .dec true] (by kernel_rfl) ?_ ?_
                    · apply prop_of ?_ hq
                      kernel_rfl
                    refine XS.reAny [0, 1] (mkMask 107 [1, 3, 4, 5, 11, 12, 59]) true h ?_
                    kernel_rfl
                  · obtain ⟨y_5, hx38, h⟩ := bind_some' h
                    have hq : ((True) ∧ ((True) ∧ ((PureC Try.prog 16 [(.int .i64 (b_Slots.getD x.toNat ((0 : Int), ((0 : Int), ((List.replicate 32 (0 : Int)), (List.replicate 32 (0 : Int)))))).2.1), (.int .i64 (1 : Int)), (.int .i64 (127 : Int))] (.bool y_4) []) ∧ ((True) ∧ (((True) ∧ (!y_4) = false) ∧ ((True) ∧ ((inR (0 : Int) 32) ∧ ((0 < 32 ∧ (True)) ∧ ((True) ∧ ((True) ∧ (((True) ∧ ((((b_Slots.getD x.toNat ((0 : Int), ((0 : Int), ((List.replicate 32 (0 : Int)), (List.replicate 32 (0 : Int)))))).2.2.1).getD 0 (0 : Int)) != (0 : Int)) = false) ∧ ((True) ∧ ((inR (1 : Int) 32) ∧ ((1 < 32 ∧ (True)) ∧ ((True) ∧ ((True) ∧ (((True) ∧ ((((b_Slots.getD x.toNat ((0 : Int), ((0 : Int), ((List.replicate 32 (0 : Int)), (List.replicate 32 (0 : Int)))))).2.2.1).getD 1 (0 : Int)) == (0 : Int)) = false) ∧ ((True) ∧ ((PureC Try.prog 65 [(.st (.cons (.int .i64 (b_Slots.getD x.toNat ((0 : Int), ((0 : Int), ((List.replicate 32 (0 : Int)), (List.replicate 32 (0 : Int)))))).1) (.cons (.int .i64 (b_Slots.getD x.toNat ((0 : Int), ((0 : Int), ((List.replicate 32 (0 : Int)), (List.replicate 32 (0 : Int)))))).2.1) (.cons (.arr 32 (.int .i64) (b_Slots.getD x.toNat ((0 : Int), ((0 : Int), ((List.replicate 32 (0 : Int)), (List.replicate 32 (0 : Int)))))).2.2.1) (.arr 32 (.int .i64) (b_Slots.getD x.toNat ((0 : Int), ((0 : Int), ((List.replicate 32 (0 : Int)), (List.replicate 32 (0 : Int)))))).2.2.2))))), (.int .i64 (2 : Int)), (.int .i64 (31 : Int))] (.bool y_5) []) ∧ ((True) ∧ ((True) ∧ ((True) ∧ ((True) ∧ ((True) ∧ (True))))))))))))))))))))))))) ∧ (True) := ⟨⟨trivial, ⟨trivial, ⟨F16_ok n ((b_Slots.getD x.toNat ((0 : Int), ((0 : Int), ((List.replicate 32 (0 : Int)), (List.replicate 32 (0 : Int)))))).2.1) (1 : Int) (127 : Int) y_4 hx31, ⟨trivial, ⟨⟨trivial, c33⟩, ⟨trivial, ⟨⟨by decide, by decide⟩, ⟨⟨(by decide), trivial⟩, ⟨trivial, ⟨trivial, ⟨⟨trivial, c35⟩, ⟨trivial, ⟨⟨by decide, by decide⟩, ⟨⟨(by decide), trivial⟩, ⟨trivial, ⟨trivial, ⟨⟨trivial, c37⟩, ⟨trivial, ⟨F65_ok n ((b_Slots.getD x.toNat ((0 : Int), ((0 : Int), ((List.replicate 32 (0 : Int)), (List.replicate 32 (0 : Int)))))).1) ((b_Slots.getD x.toNat ((0 : Int), ((0 : Int), ((List.replicate 32 (0 : Int)), (List.replicate 32 (0 : Int)))))).2.1) ((b_Slots.getD x.toNat ((0 : Int), ((0 : Int), ((List.replicate 32 (0 : Int)), (List.replicate 32 (0 : Int)))))).2.2.1) ((b_Slots.getD x.toNat ((0 : Int), ((0 : Int), ((List.replicate 32 (0 : Int)), (List.replicate 32 (0 : Int)))))).2.2.2) (2 : Int) (31 : Int) y_5 hx38, ⟨trivial, ⟨trivial, ⟨trivial, ⟨trivial, ⟨trivial, trivial⟩⟩⟩⟩⟩⟩⟩⟩⟩⟩⟩⟩⟩⟩⟩⟩⟩⟩⟩⟩⟩⟩⟩⟩, trivial⟩
                    refine TS.draw 24 [] [.none, .none, (.call (.bool y_4) []), .none, .dec false, .none, .none, .none, .none, .none, .dec false, .none, .none, .none, .none, .none, .dec false, .none, (.call (.bool y_5) [])] (by kernel_rfl) ?_ ?_
                    · apply prop_of ?_ hq
                      kernel_rfl
                    refine XS.reAny [0, 1] (mkMask 107 [1, 3, 4, 5, 11, 12, 59]) (!(y_5 == ((b_Slots.getD x.toNat ((0 : Int), ((0 : Int), ((List.replicate 32 (0 : Int)), (List.replicate 32 (0 : Int)))))).1 == (3 : Int)))) h ?_
                    kernel_rfl
      · rcases bif_some h with ⟨c39, h⟩ | ⟨c40, h⟩
        · rcases bif_some h with ⟨c41, h⟩ | ⟨c42, h⟩
          · have hq : (True) ∧ ((True) ∧ (((True) ∧ (x == (0 : Int)) = true) ∧ ((True) ∧ ((True) ∧ ((True) ∧ ((True) ∧ (((True) ∧ (!(Sh.beq (.st (.pair (.int .i64) (.pair (.int .i64) (.pair (.arr 32 (.int .i64)) (.arr 32 (.int .i64)))))) ((b_Slots.getD x.toNat ((0 : Int), ((0 : Int), ((List.replicate 32 (0 : Int)), (List.replicate 32 (0 : Int)))))).1, ((b_Slots.getD x.toNat ((0 : Int), ((0 : Int), ((List.replicate 32 (0 : Int)), (List.replicate 32 (0 : Int)))))).2.1, ((b_Slots.getD x.toNat ((0 : Int), ((0 : Int), ((List.replicate 32 (0 : Int)), (List.replicate 32 (0 : Int)))))).2.2.1, (b_Slots.getD x.toNat ((0 : Int), ((0 : Int), ((List.replicate 32 (0 : Int)), (List.replicate 32 (0 : Int)))))).2.2.2))) ((0 : Int), ((0 : Int), ((List.replicate 32 (0 : Int)), (List.replicate 32 (0 : Int))))))) = true) ∧ ((True) ∧ (True))))))))) := ⟨trivial, ⟨trivial, ⟨⟨trivial, c39⟩, ⟨trivial, ⟨trivial, ⟨trivial, ⟨trivial, ⟨⟨trivial, c41⟩, ⟨trivial, trivial⟩⟩⟩⟩⟩⟩⟩⟩⟩
            refine TS.reg [.none, .none, .dec true, .none, .none, .none, .none, .dec true] ?_ ?_
            · apply prop_of ?_ hq
              kernel_rfl
            refine XS.reAny [0, 1] (mkMask 107 [1, 3, 4, 5, 11, 12, 28]) true h ?_
            kernel_rfl
          · obtain ⟨y_6, hx43, h⟩ := bind_some' h
            have hq : (True) ∧ ((True) ∧ (((True) ∧ (x == (0 : Int)) = true) ∧ ((True) ∧ ((True) ∧ ((True) ∧ ((True) ∧ (((True) ∧ (!(Sh.beq (.st (.pair (.int .i64) (.pair (.int .i64) (.pair (.arr 32 (.int .i64)) (.arr 32 (.int .i64)))))) ((b_Slots.getD x.toNat ((0 : Int), ((0 : Int), ((List.replicate 32 (0 : Int)), (List.replicate 32 (0 : Int)))))).1, ((b_Slots.getD x.toNat ((0 : Int), ((0 : Int), ((List.replicate 32 (0 : Int)), (List.replicate 32 (0 : Int)))))).2.1, ((b_Slots.getD x.toNat ((0 : Int), ((0 : Int), ((List.replicate 32 (0 : Int)), (List.replicate 32 (0 : Int)))))).2.2.1, (b_Slots.getD x.toNat ((0 : Int), ((0 : Int), ((List.replicate 32 (0 : Int)), (List.replicate 32 (0 : Int)))))).2.2.2))) ((0 : Int), ((0 : Int), ((List.replicate 32 (0 : Int)), (List.replicate 32 (0 : Int))))))) = false) ∧ ((True) ∧ ((True) ∧ ((PureC Try.prog 16 [(.int .i64 (b_Slots.getD x.toNat ((0 : Int), ((0 : Int), ((List.replicate 32 (0 : Int)), (List.replicate 32 (0 : Int)))))).1), (.int .i64 (0 : Int)), (.int .i64 (3 : Int))] (.bool y_6) []) ∧ ((True) ∧ ((True) ∧ (True))))))))))))) := ⟨trivial, ⟨trivial, ⟨⟨trivial, c39⟩, ⟨trivial, ⟨trivial, ⟨trivial, ⟨trivial, ⟨⟨trivial, c42⟩, ⟨trivial, ⟨trivial, ⟨F16_ok n ((b_Slots.getD x.toNat ((0 : Int), ((0 : Int), ((List.replicate 32 (0 : Int)), (List.replicate 32 (0 : Int)))))).1) (0 : Int) (3 : Int) y_6 hx43, ⟨trivial, ⟨trivial, trivial⟩⟩⟩⟩⟩⟩⟩⟩⟩⟩⟩⟩⟩
            refine TS.reg [.none, .none, .dec true, .none, .none, .none, .none, .dec false, .none, .none, (.call (.bool y_6) [])] ?_ ?_
            · apply prop_of ?_ hq
              kernel_rfl
            refine XS.reAny [0, 1] (mkMask 107 [1, 3, 4, 5, 11, 12, 28]) (!y_6) h ?_
            kernel_rfl
        · obtain ⟨y_7, hx44, h⟩ := bind_some' h
          have hq : (True) ∧ ((True) ∧ (((True) ∧ (x == (0 : Int)) = false) ∧ ((True) ∧ ((True) ∧ ((True) ∧ ((True) ∧ ((PureC Try.prog 16 [(.int .i64 (b_Slots.getD x.toNat ((0 : Int), ((0 : Int), ((List.replicate 32 (0 : Int)), (List.replicate 32 (0 : Int)))))).1), (.int .i64 (0 : Int)), (.int .i64 (3 : Int))] (.bool y_7) []) ∧ ((True) ∧ ((True) ∧ (True)))))))))) := ⟨trivial, ⟨trivial, ⟨⟨trivial, c40⟩, ⟨trivial, ⟨trivial, ⟨trivial, ⟨trivial, ⟨F16_ok n ((b_Slots.getD x.toNat ((0 : Int), ((0 : Int), ((List.replicate 32 (0 : Int)), (List.replicate 32 (0 : Int)))))).1) (0 : Int) (3 : Int) y_7 hx44, ⟨trivial, ⟨trivial, trivial⟩⟩⟩⟩⟩⟩⟩⟩⟩⟩
          refine TS.reg [.none, .none, .dec false, .none, .none, .none, .none, .none, .none, .none, (.call (.bool y_7) [])] ?_ ?_
          · apply prop_of ?_ hq
            kernel_rfl
          refine XS.reAny [0, 1] (mkMask 107 [1, 3, 4, 5, 11, 12, 28]) (!y_7) h ?_
          kernel_rfl
    · refine TS.cond (decide (x < (9 : Int))) ?_ (fun e => by rw [c2] at e; cases e) (fun e => ?_)
      · kernel_rfl
      refine TS.exit ?_
      refine XS.passE ?_
      refine XS.passE ?_
      refine XS.out ?_
      refine XS.then ?_
      refine TS.seq ?_
      have hq : (True) ∧ (True) := ⟨trivial, trivial⟩
      refine TS.reg [] ?_ ?_
      · apply prop_of ?_ hq
        kernel_rfl
      refine XS.then ?_
      refine TS.ret ?_
      obtain rfl : (0 : Int) = r := Option.some.inj h
      exact XS.fin [] ((True) ∧ (True)) (by kernel_rfl) ⟨trivial, trivial⟩

/-! plugtree/slots.slot -/
def F111_j12 (n : Nat) (k111_11 : (Bool × Int) → Option Bool) (s_Ends : List Int) (more : Bool) (i : Int) : Bool → Option Bool
  | x_2 => (bif x_2 then (some false) else (bif more then (k111_11 (true, (IntKind.wrap .i64 (i + (1 : Int))))) else (bif (decide (i > (1 : Int))) then (bif inb i 32 then (k111_11 (((s_Ends.getD i.toNat (0 : Int)) != (0 : Int)), (IntKind.wrap .i64 (i + (1 : Int))))) else none) else (k111_11 (false, (IntKind.wrap .i64 (i + (1 : Int))))))))
def F111_l11 (n : Nat) (s_State : Int) (s_Ends : List Int) (s_Marks : List Int) (k111_11 : (Bool × Int) → Option Bool) : (Bool × Int) → Option Bool
  | (more, i) => (bif (decide (i < (32 : Int))) then (bif inb i 32 then (bif (decide ((s_Ends.getD i.toNat (0 : Int)) < (0 : Int))) then (F111_j12 n k111_11 s_Ends more i true) else (bif (decide ((s_Ends.getD i.toNat (0 : Int)) > (3 : Int))) then (F111_j12 n k111_11 s_Ends more i true) else (bif (decide ((s_Marks.getD i.toNat (0 : Int)) < (0 : Int))) then (F111_j12 n k111_11 s_Ends more i true) else (bif (decide ((s_Marks.getD i.toNat (0 : Int)) > (65535 : Int))) then (F111_j12 n k111_11 s_Ends more i true) else (bif ((s_Ends.getD i.toNat (0 : Int)) == (0 : Int)) then (F111_j12 n k111_11 s_Ends more i ((s_Marks.getD i.toNat (0 : Int)) != (0 : Int))) else (F111_j12 n k111_11 s_Ends more i false)))))) else none) else (some (more == (s_State == (3 : Int)))))
def F111_j7 (n : Nat) (s_State : Int) (s_Ends : List Int) (s_Marks : List Int) : Bool → Option Bool
  | x => (bif x then (some false) else (loopF (F111_l11 n s_State s_Ends s_Marks) n (false, (1 : Int))))
def F111 (n : Nat) (s_State : Int) (s_Addr : Int) (s_Ends : List Int) (s_Marks : List Int) : Option Bool := (bif (decide (s_State ≤ (1 : Int))) then (bif (Sh.beq (.st (.pair (.int .i64) (.pair (.int .i64) (.pair (.arr 32 (.int .i64)) (.arr 32 (.int .i64)))))) (s_State, (s_Addr, (s_Ends, s_Marks))) (s_State, ((0 : Int), ((List.replicate 32 (0 : Int)), (List.replicate 32 (0 : Int)))))) then (some (decide (s_State ≥ (0 : Int)))) else (some false)) else (bif (decide (s_State > (3 : Int))) then (F111_j7 n s_State s_Ends s_Marks true) else (bif (decide (s_Addr < (1 : Int))) then (F111_j7 n s_State s_Ends s_Marks true) else (bif (decide (s_Addr > (127 : Int))) then (F111_j7 n s_State s_Ends s_Marks true) else (bif ((s_Ends.getD 1 (0 : Int)) == (0 : Int)) then (F111_j7 n s_State s_Ends s_Marks true) else (bif ((s_Ends.getD 0 (0 : Int)) != (0 : Int)) then (F111_j7 n s_State s_Ends s_Marks true) else (F111_j7 n s_State s_Ends s_Marks ((s_Marks.getD 0 (0 : Int)) != (0 : Int)))))))))
theorem F111_ok (n : Nat) (s_State : Int) (s_Addr : Int) (s_Ends : List Int) (s_Marks : List Int) (r : Bool) (h : F111 n s_State s_Addr s_Ends s_Marks = some r) : PureC Try.prog 111 [(.st (.cons (.int .i64 s_State) (.cons (.int .i64 s_Addr) (.cons (.arr 32 (.int .i64) s_Ends) (.arr 32 (.int .i64) s_Marks)))))] (.bool r) [] := by
  refine PureC.mkS Try.func111 rfl rfl ?_
  intro w0 fz0 hfz
  replace h : (bif (decide (s_State ≤ (1 : Int))) then (bif (Sh.beq (.st (.pair (.int .i64) (.pair (.int .i64) (.pair (.arr 32 (.int .i64)) (.arr 32 (.int .i64)))))) (s_State, (s_Addr, (s_Ends, s_Marks))) (s_State, ((0 : Int), ((List.replicate 32 (0 : Int)), (List.replicate 32 (0 : Int)))))) then (some (decide (s_State ≥ (0 : Int)))) else (some false)) else (bif (decide (s_State > (3 : Int))) then (F111_j7 n s_State s_Ends s_Marks true) else (bif (decide (s_Addr < (1 : Int))) then (F111_j7 n s_State s_Ends s_Marks true) else (bif (decide (s_Addr > (127 : Int))) then (F111_j7 n s_State s_Ends s_Marks true) else (bif ((s_Ends.getD 1 (0 : Int)) == (0 : Int)) then (F111_j7 n s_State s_Ends s_Marks true) else (bif ((s_Ends.getD 0 (0 : Int)) != (0 : Int)) then (F111_j7 n s_State s_Ends s_Marks true) else (F111_j7 n s_State s_Ends s_Marks ((s_Marks.getD 0 (0 : Int)) != (0 : Int))))))))) = some r := h
  refine TS.seq ?_
  have hq : (True) ∧ ((True) ∧ (True)) := ⟨trivial, ⟨trivial, trivial⟩⟩
  refine TS.reg [] ?_ ?_
  · apply prop_of ?_ hq
    kernel_rfl
  refine XS.then ?_
  refine TS.seq ?_
  refine TS.seq ?_
  have hq : (True) ∧ ((True) ∧ ((True) ∧ (True))) := ⟨trivial, ⟨trivial, ⟨trivial, trivial⟩⟩⟩
  refine TS.reg [] ?_ ?_
  · apply prop_of ?_ hq
    kernel_rfl
  refine XS.then ?_
  rcases bif_some h with ⟨c1, h⟩ | ⟨c2, h⟩
  · refine TS.cond (decide (s_State ≤ (1 : Int))) ?_ (fun e => ?_) (fun e => by rw [c1] at e; cases e)
    · kernel_rfl
    refine TS.seq ?_
    rcases bif_some h with ⟨c3, h⟩ | ⟨c4, h⟩
    · have hq : (True) ∧ ((True) ∧ ((True) ∧ (((True) ∧ (True)) ∧ ((True) ∧ (((True) ∧ (Sh.beq (.st (.pair (.int .i64) (.pair (.int .i64) (.pair (.arr 32 (.int .i64)) (.arr 32 (.int .i64)))))) (s_State, (s_Addr, (s_Ends, s_Marks))) (s_State, ((0 : Int), ((List.replicate 32 (0 : Int)), (List.replicate 32 (0 : Int)))))) = true) ∧ ((True) ∧ ((True) ∧ ((True) ∧ ((True) ∧ ((True) ∧ (True))))))))))) := ⟨trivial, ⟨trivial, ⟨trivial, ⟨⟨trivial, trivial⟩, ⟨trivial, ⟨⟨trivial, c3⟩, ⟨trivial, ⟨trivial, ⟨trivial, ⟨trivial, ⟨trivial, trivial⟩⟩⟩⟩⟩⟩⟩⟩⟩⟩⟩
      refine TS.reg [.none, .none, .none, .none, .none, .dec true] ?_ ?_
      · apply prop_of ?_ hq
        kernel_rfl
      refine XS.then ?_
      refine TS.ret ?_
      refine XS.passR ?_
      obtain rfl : (decide (s_State ≥ (0 : Int))) = r := Option.some.inj h
      exact XS.fin [] ((True) ∧ (True)) (by kernel_rfl) ⟨trivial, trivial⟩
    · have hq : (True) ∧ ((True) ∧ ((True) ∧ (((True) ∧ (True)) ∧ ((True) ∧ (((True) ∧ (Sh.beq (.st (.pair (.int .i64) (.pair (.int .i64) (.pair (.arr 32 (.int .i64)) (.arr 32 (.int .i64)))))) (s_State, (s_Addr, (s_Ends, s_Marks))) (s_State, ((0 : Int), ((List.replicate 32 (0 : Int)), (List.replicate 32 (0 : Int)))))) = false) ∧ ((True) ∧ ((True) ∧ (True)))))))) := ⟨trivial, ⟨trivial, ⟨trivial, ⟨⟨trivial, trivial⟩, ⟨trivial, ⟨⟨trivial, c4⟩, ⟨trivial, ⟨trivial, trivial⟩⟩⟩⟩⟩⟩⟩⟩
      refine TS.reg [.none, .none, .none, .none, .none, .dec false] ?_ ?_
      · apply prop_of ?_ hq
        kernel_rfl
      refine XS.then ?_
      refine TS.ret ?_
      refine XS.passR ?_
      obtain rfl : false = r := Option.some.inj h
      exact XS.fin [] ((True) ∧ (True)) (by kernel_rfl) ⟨trivial, trivial⟩
  · refine TS.cond (decide (s_State ≤ (1 : Int))) ?_ (fun e => by rw [c2] at e; cases e) (fun e => ?_)
    · kernel_rfl
    refine TS.skip ?_
    refine XS.then ?_
    refine TS.seq ?_
    refine TS.seq ?_
    refine TS.cut (D := Bool) (fun d => match d with | x => (mkTs 110 [(1, (.ptr 0 [])), (48, (.bool x))], [(.box 24 (.st (.cons (.int .i64 s_State) (.cons (.int .i64 s_Addr) (.cons (.arr 32 (.int .i64) s_Ends) (.arr 32 (.int .i64) s_Marks))))))])) (fun d => F111_j7 n s_State s_Ends s_Marks d = some r) ?_ ?_
    · rintro x h
      replace h : (bif x then (some false) else (loopF (F111_l11 n s_State s_Ends s_Marks) n (false, (1 : Int)))) = some r := h
      refine XS.then ?_
      rcases bif_some h with ⟨c5, h⟩ | ⟨c6, h⟩
      · refine TS.cond x ?_ (fun e => ?_) (fun e => by rw [c5] at e; cases e)
        · kernel_rfl
        refine TS.seq ?_
        have hq : (True) ∧ (True) := ⟨trivial, trivial⟩
        refine TS.reg [] ?_ ?_
        · apply prop_of ?_ hq
          kernel_rfl
        refine XS.then ?_
        refine TS.ret ?_
        refine XS.passR ?_
        obtain rfl : false = r := Option.some.inj h
        exact XS.fin [] ((True) ∧ (True)) (by kernel_rfl) ⟨trivial, trivial⟩
      · refine TS.cond x ?_ (fun e => by rw [c6] at e; cases e) (fun e => ?_)
        · kernel_rfl
        refine TS.skip ?_
        refine XS.then ?_
        refine TS.seq ?_
        have hq : (True) ∧ (True) := ⟨trivial, trivial⟩
        refine TS.reg [] ?_ ?_
        · apply prop_of ?_ hq
          kernel_rfl
        refine XS.then ?_
        refine TS.seq ?_
        refine TS.seq ?_
        have hq : (True) ∧ (True) := ⟨trivial, trivial⟩
        refine TS.reg [] ?_ ?_
        · apply prop_of ?_ hq
          kernel_rfl
        refine XS.then ?_
        refine TS.block ?_
        refine TS.reLoop [0] (mkMask 110 [1, 3, 4]) (D := Bool × Int) (fun d => match d with | (more, i) => (mkTs 110 [(1, (.ptr 0 [])), (3, (.bool more)), (4, (.int .i64 i))], [(.box 24 (.st (.cons (.int .i64 s_State) (.cons (.int .i64 s_Addr) (.cons (.arr 32 (.int .i64) s_Ends) (.arr 32 (.int .i64) s_Marks))))))])) (fun n' d => loopF (F111_l11 n s_State s_Ends s_Marks) n' d = some r) n (false, (1 : Int)) h ?_ (fun d => loopF_zero _ d r) ?_
        · kernel_rfl
        · rintro n11 ⟨more, i⟩ h
          replace h : (bif (decide (i < (32 : Int))) then (bif inb i 32 then (bif (decide ((s_Ends.getD i.toNat (0 : Int)) < (0 : Int))) then (F111_j12 n (loopF (F111_l11 n s_State s_Ends s_Marks) n11) s_Ends more i true) else (bif (decide ((s_Ends.getD i.toNat (0 : Int)) > (3 : Int))) then (F111_j12 n (loopF (F111_l11 n s_State s_Ends s_Marks) n11) s_Ends more i true) else (bif (decide ((s_Marks.getD i.toNat (0 : Int)) < (0 : Int))) then (F111_j12 n (loopF (F111_l11 n s_State s_Ends s_Marks) n11) s_Ends more i true) else (bif (decide ((s_Marks.getD i.toNat (0 : Int)) > (65535 : Int))) then (F111_j12 n (loopF (F111_l11 n s_State s_Ends s_Marks) n11) s_Ends more i true) else (bif ((s_Ends.getD i.toNat (0 : Int)) == (0 : Int)) then (F111_j12 n (loopF (F111_l11 n s_State s_Ends s_Marks) n11) s_Ends more i ((s_Marks.getD i.toNat (0 : Int)) != (0 : Int))) else (F111_j12 n (loopF (F111_l11 n s_State s_Ends s_Marks) n11) s_Ends more i false)))))) else none) else (some (more == (s_State == (3 : Int))))) = some r := h
          refine TS.seq ?_
          refine TS.seq ?_
          have hq : (True) ∧ ((True) ∧ (True)) := ⟨trivial, ⟨trivial, trivial⟩⟩
          refine TS.reg [] ?_ ?_
          · apply prop_of ?_ hq
            kernel_rfl
          refine XS.then ?_
          rcases bif_some h with ⟨c7, h⟩ | ⟨c8, h⟩
          · refine TS.cond (decide (i < (32 : Int))) ?_ (fun e => ?_) (fun e => by rw [c7] at e; cases e)
            · kernel_rfl
            refine TS.skip ?_
            refine XS.then ?_
            refine TS.seq ?_
            refine TS.block ?_
            refine TS.seq ?_
            refine TS.seq ?_
            refine TS.cut (D := Bool) (fun d => match d with | x_2 => (mkTs 110 [(1, (.ptr 0 [])), (3, (.bool more)), (4, (.int .i64 i)), (92, (.bool x_2))], [(.box 24 (.st (.cons (.int .i64 s_State) (.cons (.int .i64 s_Addr) (.cons (.arr 32 (.int .i64) s_Ends) (.arr 32 (.int .i64) s_Marks))))))])) (fun d => F111_j12 n (loopF (F111_l11 n s_State s_Ends s_Marks) n11) s_Ends more i d = some r) ?_ ?_
            · rintro x_2 h
              replace h : (bif x_2 then (some false) else (bif more then ((loopF (F111_l11 n s_State s_Ends s_Marks) n11) (true, (IntKind.wrap .i64 (i + (1 : Int))))) else (bif (decide (i > (1 : Int))) then (bif inb i 32 then ((loopF (F111_l11 n s_State s_Ends s_Marks) n11) (((s_Ends.getD i.toNat (0 : Int)) != (0 : Int)), (IntKind.wrap .i64 (i + (1 : Int))))) else none) else ((loopF (F111_l11 n s_State s_Ends s_Marks) n11) (false, (IntKind.wrap .i64 (i + (1 : Int)))))))) = some r := h
              refine XS.then ?_
              rcases bif_some h with ⟨c9, h⟩ | ⟨c10, h⟩
              · refine TS.cond x_2 ?_ (fun e => ?_) (fun e => by rw [c9] at e; cases e)
                · kernel_rfl
                refine TS.seq ?_
                have hq : (True) ∧ (True) := ⟨trivial, trivial⟩
                refine TS.reg [] ?_ ?_
                · apply prop_of ?_ hq
                  kernel_rfl
                refine XS.then ?_
                refine TS.ret ?_
                refine XS.passR ?_
                refine XS.blockRet ?_
                refine XS.passR ?_
                refine XS.passR ?_
                refine XS.blockRet ?_
                refine XS.passR ?_
                obtain rfl : false = r := Option.some.inj h
                exact XS.fin [] ((True) ∧ (True)) (by kernel_rfl) ⟨trivial, trivial⟩
              · refine TS.cond x_2 ?_ (fun e => by rw [c10] at e; cases e) (fun e => ?_)
                · kernel_rfl
                refine TS.skip ?_
                refine XS.then ?_
                rcases bif_some h with ⟨c11, h⟩ | ⟨c12, h⟩
                · have hq : (True) ∧ (((True) ∧ more = true) ∧ ((True) ∧ ((True) ∧ (True)))) := ⟨trivial, ⟨⟨trivial, c11⟩, ⟨trivial, ⟨trivial, trivial⟩⟩⟩⟩
                  refine TS.reg [.none, .dec true] ?_ ?_
                  · apply prop_of ?_ hq
                    kernel_rfl
                  refine XS.blockEnd ?_
                  refine XS.then ?_
                  have hq : (True) ∧ ((True) ∧ ((True) ∧ (True))) := ⟨trivial, ⟨trivial, ⟨trivial, trivial⟩⟩⟩
                  refine TS.reg [] ?_ ?_
                  · apply prop_of ?_ hq
                    kernel_rfl
                  refine XS.reAny [0] (mkMask 110 [1, 3, 4]) (true, (IntKind.wrap .i64 (i + (1 : Int)))) h ?_
                  kernel_rfl
                · rcases bif_some h with ⟨c13, h⟩ | ⟨c14, h⟩
                  · obtain ⟨t15, h⟩ := test_some h
                    have hq : (True) ∧ (((True) ∧ more = false) ∧ ((True) ∧ ((True) ∧ (((True) ∧ (decide (i > (1 : Int))) = true) ∧ ((True) ∧ ((True) ∧ ((inR i 32) ∧ ((i.toNat < 32 ∧ (True)) ∧ ((True) ∧ ((True) ∧ ((True) ∧ ((True) ∧ (True))))))))))))) := ⟨trivial, ⟨⟨trivial, c12⟩, ⟨trivial, ⟨trivial, ⟨⟨trivial, c13⟩, ⟨trivial, ⟨trivial, ⟨inb_ok t15, ⟨⟨inR_lt (inb_ok t15), trivial⟩, ⟨trivial, ⟨trivial, ⟨trivial, ⟨trivial, trivial⟩⟩⟩⟩⟩⟩⟩⟩⟩⟩⟩⟩⟩
                    refine TS.reg [.none, .dec false, .none, .none, .dec true] ?_ ?_
                    · apply prop_of ?_ hq
                      kernel_rfl
                    refine XS.blockEnd ?_
                    refine XS.then ?_
                    have hq : (True) ∧ ((True) ∧ ((True) ∧ (True))) := ⟨trivial, ⟨trivial, ⟨trivial, trivial⟩⟩⟩
                    refine TS.reg [] ?_ ?_
                    · apply prop_of ?_ hq
                      kernel_rfl
                    refine XS.reAny [0] (mkMask 110 [1, 3, 4]) (((s_Ends.getD i.toNat (0 : Int)) != (0 : Int)), (IntKind.wrap .i64 (i + (1 : Int)))) h ?_
                    kernel_rfl
                  · have hq : (True) ∧ (((True) ∧ more = false) ∧ ((True) ∧ ((True) ∧ (((True) ∧ (decide (i > (1 : Int))) = false) ∧ ((True) ∧ ((True) ∧ ((True) ∧ (True)))))))) := ⟨trivial, ⟨⟨trivial, c12⟩, ⟨trivial, ⟨trivial, ⟨⟨trivial, c14⟩, ⟨trivial, ⟨trivial, ⟨trivial, trivial⟩⟩⟩⟩⟩⟩⟩⟩
                    refine TS.reg [.none, .dec false, .none, .none, .dec false] ?_ ?_
                    · apply prop_of ?_ hq
                      kernel_rfl
                    refine XS.blockEnd ?_
                    refine XS.then ?_
                    have hq : (True) ∧ ((True) ∧ ((True) ∧ (True))) := ⟨trivial, ⟨trivial, ⟨trivial, trivial⟩⟩⟩
                    refine TS.reg [] ?_ ?_
                    · apply prop_of ?_ hq
                      kernel_rfl
                    refine XS.reAny [0] (mkMask 110 [1, 3, 4]) (false, (IntKind.wrap .i64 (i + (1 : Int)))) h ?_
                    kernel_rfl
            · obtain ⟨t16, h⟩ := test_some h
              rcases bif_some h with ⟨c17, h⟩ | ⟨c18, h⟩
              · have hq : (True) ∧ ((True) ∧ ((inR i 32) ∧ ((i.toNat < 32 ∧ (True)) ∧ ((True) ∧ (((True) ∧ (decide ((s_Ends.getD i.toNat (0 : Int)) < (0 : Int))) = true) ∧ ((True) ∧ ((True) ∧ ((True) ∧ ((True) ∧ ((True) ∧ ((True) ∧ ((True) ∧ (True))))))))))))) := ⟨trivial, ⟨trivial, ⟨inb_ok t16, ⟨⟨inR_lt (inb_ok t16), trivial⟩, ⟨trivial, ⟨⟨trivial, c17⟩, ⟨trivial, ⟨trivial, ⟨trivial, ⟨trivial, ⟨trivial, ⟨trivial, ⟨trivial, trivial⟩⟩⟩⟩⟩⟩⟩⟩⟩⟩⟩⟩⟩
                refine TS.reg [.none, .none, .none, .none, .none, .dec true] ?_ ?_
                · apply prop_of ?_ hq
                  kernel_rfl
                refine XS.reAny [0] (mkMask 110 [1, 3, 4, 92]) true h ?_
                kernel_rfl
              · rcases bif_some h with ⟨c19, h⟩ | ⟨c20, h⟩
                · have hq : (True) ∧ ((True) ∧ ((inR i 32) ∧ ((i.toNat < 32 ∧ (True)) ∧ ((True) ∧ (((True) ∧ (decide ((s_Ends.getD i.toNat (0 : Int)) < (0 : Int))) = false) ∧ ((True) ∧ ((True) ∧ ((inR i 32) ∧ ((i.toNat < 32 ∧ (True)) ∧ ((True) ∧ ((True) ∧ (((True) ∧ (decide ((s_Ends.getD i.toNat (0 : Int)) > (3 : Int))) = true) ∧ ((True) ∧ ((True) ∧ ((True) ∧ ((True) ∧ ((True) ∧ (True)))))))))))))))))) := ⟨trivial, ⟨trivial, ⟨inb_ok t16, ⟨⟨inR_lt (inb_ok t16), trivial⟩, ⟨trivial, ⟨⟨trivial, c18⟩, ⟨trivial, ⟨trivial, ⟨inb_ok t16, ⟨⟨inR_lt (inb_ok t16), trivial⟩, ⟨trivial, ⟨trivial, ⟨⟨trivial, c19⟩, ⟨trivial, ⟨trivial, ⟨trivial, ⟨trivial, ⟨trivial, trivial⟩⟩⟩⟩⟩⟩⟩⟩⟩⟩⟩⟩⟩⟩⟩⟩⟩⟩
                  refine TS.reg [.none, .none, .none, .none, .none, .dec false, .none, .none, .none, .none, .none, .none, .dec true] ?_ ?_
                  · apply prop_of ?_ hq
                    kernel_rfl
                  refine XS.reAny [0] (mkMask 110 [1, 3, 4, 92]) true h ?_
                  kernel_rfl
                · rcases bif_some h with ⟨c21, h⟩ | ⟨c22, h⟩
                  · have hq : (True) ∧ ((True) ∧ ((inR i 32) ∧ ((i.toNat < 32 ∧ (True)) ∧ ((True) ∧ (((True) ∧ (decide ((s_Ends.getD i.toNat (0 : Int)) < (0 : Int))) = false) ∧ ((True) ∧ ((True) ∧ ((inR i 32) ∧ ((i.toNat < 32 ∧ (True)) ∧ ((True) ∧ ((True) ∧ (((True) ∧ (decide ((s_Ends.getD i.toNat (0 : Int)) > (3 : Int))) = false) ∧ ((True) ∧ ((True) ∧ ((inR i 32) ∧ ((i.toNat < 32 ∧ (True)) ∧ ((True) ∧ ((True) ∧ (((True) ∧ (decide ((s_Marks.getD i.toNat (0 : Int)) < (0 : Int))) = true) ∧ ((True) ∧ ((True) ∧ ((True) ∧ (True))))))))))))))))))))))) := ⟨trivial, ⟨trivial, ⟨inb_ok t16, ⟨⟨inR_lt (inb_ok t16), trivial⟩, ⟨trivial, ⟨⟨trivial, c18⟩, ⟨trivial, ⟨trivial, ⟨inb_ok t16, ⟨⟨inR_lt (inb_ok t16), trivial⟩, ⟨trivial, ⟨trivial, ⟨⟨trivial, c20⟩, ⟨trivial, ⟨trivial, ⟨inb_ok t16, ⟨⟨inR_lt (inb_ok t16), trivial⟩, ⟨trivial, ⟨trivial, ⟨⟨trivial, c21⟩, ⟨trivial, ⟨trivial, ⟨trivial, trivial⟩⟩⟩⟩⟩⟩⟩⟩⟩⟩⟩⟩⟩⟩⟩⟩⟩⟩⟩⟩⟩⟩⟩
                    refine TS.reg [.none, .none, .none, .none, .none, .dec false, .none, .none, .none, .none, .none, .none, .dec false, .none, .none, .none, .none, .none, .none, .dec true] ?_ ?_
                    · apply prop_of ?_ hq
                      kernel_rfl
                    refine XS.reAny [0] (mkMask 110 [1, 3, 4, 92]) true h ?_
                    kernel_rfl
                  · rcases bif_some h with ⟨c23, h⟩ | ⟨c24, h⟩
                    · have hq : (True) ∧ ((True) ∧ ((inR i 32) ∧ ((i.toNat < 32 ∧ (True)) ∧ ((True) ∧ (((True) ∧ (decide ((s_Ends.getD i.toNat (0 : Int)) < (0 : Int))) = false) ∧ ((True) ∧ ((True) ∧ ((inR i 32) ∧ ((i.toNat < 32 ∧ (True)) ∧ ((True) ∧ ((True) ∧ (((True) ∧ (decide ((s_Ends.getD i.toNat (0 : Int)) > (3 : Int))) = false) ∧ ((True) ∧ ((True) ∧ ((inR i 32) ∧ ((i.toNat < 32 ∧ (True)) ∧ ((True) ∧ ((True) ∧ (((True) ∧ (decide ((s_Marks.getD i.toNat (0 : Int)) < (0 : Int))) = false) ∧ ((True) ∧ ((True) ∧ ((inR i 32) ∧ ((i.toNat < 32 ∧ (True)) ∧ ((True) ∧ ((True) ∧ (((True) ∧ (decide ((s_Marks.getD i.toNat (0 : Int)) > (65535 : Int))) = true) ∧ ((True) ∧ (True)))))))))))))))))))))))))))) := ⟨trivial, ⟨trivial, ⟨inb_ok t16, ⟨⟨inR_lt (inb_ok t16), trivial⟩, ⟨trivial, ⟨⟨trivial, c18⟩, ⟨trivial, ⟨trivial, ⟨inb_ok t16, ⟨⟨inR_lt (inb_ok t16), trivial⟩, ⟨trivial, ⟨trivial, ⟨⟨trivial, c20⟩, ⟨trivial, ⟨trivial, ⟨inb_ok t16, ⟨⟨inR_lt (inb_ok t16), trivial⟩, ⟨trivial, ⟨trivial, ⟨⟨trivial, c22⟩, ⟨trivial, ⟨trivial, ⟨inb_ok t16, ⟨⟨inR_lt (inb_ok t16), trivial⟩, ⟨trivial, ⟨trivial, ⟨⟨trivial, c23⟩, ⟨trivial, trivial⟩⟩⟩⟩⟩⟩⟩⟩⟩⟩⟩⟩⟩⟩⟩⟩⟩⟩⟩⟩⟩⟩⟩⟩⟩⟩⟩⟩
                      refine TS.reg [.none, .none, .none, .none, .none, .dec false, .none, .none, .none, .none, .none, .none, .dec false, .none, .none, .none, .none, .none, .none, .dec false, .none, .none, .none, .none, .none, .none, .dec true] ?_ ?_
                      · apply prop_of ?_ hq
                        kernel_rfl
                      refine XS.reAny [0] (mkMask 110 [1, 3, 4, 92]) true h ?_
                      kernel_rfl
                    · rcases bif_some h with ⟨c25, h⟩ | ⟨c26, h⟩
                      · have hq : (True) ∧ ((True) ∧ ((inR i 32) ∧ ((i.toNat < 32 ∧ (True)) ∧ ((True) ∧ (((True) ∧ (decide ((s_Ends.getD i.toNat (0 : Int)) < (0 : Int))) = false) ∧ ((True) ∧ ((True) ∧ ((inR i 32) ∧ ((i.toNat < 32 ∧ (True)) ∧ ((True) ∧ ((True) ∧ (((True) ∧ (decide ((s_Ends.getD i.toNat (0 : Int)) > (3 : Int))) = false) ∧ ((True) ∧ ((True) ∧ ((inR i 32) ∧ ((i.toNat < 32 ∧ (True)) ∧ ((True) ∧ ((True) ∧ (((True) ∧ (decide ((s_Marks.getD i.toNat (0 : Int)) < (0 : Int))) = false) ∧ ((True) ∧ ((True) ∧ ((inR i 32) ∧ ((i.toNat < 32 ∧ (True)) ∧ ((True) ∧ ((True) ∧ (((True) ∧ (decide ((s_Marks.getD i.toNat (0 : Int)) > (65535 : Int))) = false) ∧ ((True) ∧ ((True) ∧ ((inR i 32) ∧ ((i.toNat < 32 ∧ (True)) ∧ ((True) ∧ (((True) ∧ ((s_Ends.getD i.toNat (0 : Int)) == (0 : Int)) = true) ∧ ((True) ∧ ((True) ∧ ((inR i 32) ∧ ((i.toNat < 32 ∧ (True)) ∧ ((True) ∧ ((True) ∧ ((True) ∧ (True)))))))))))))))))))))))))))))))))))))))) := ⟨trivial, ⟨trivial, ⟨inb_ok t16, ⟨⟨inR_lt (inb_ok t16), trivial⟩, ⟨trivial, ⟨⟨trivial, c18⟩, ⟨trivial, ⟨trivial, ⟨inb_ok t16, ⟨⟨inR_lt (inb_ok t16), trivial⟩, ⟨trivial, ⟨trivial, ⟨⟨trivial, c20⟩, ⟨trivial, ⟨trivial, ⟨inb_ok t16, ⟨⟨inR_lt (inb_ok t16), trivial⟩, ⟨trivial, ⟨trivial, ⟨⟨trivial, c22⟩, ⟨trivial, ⟨trivial, ⟨inb_ok t16, ⟨⟨inR_lt (inb_ok t16), trivial⟩, ⟨trivial, ⟨trivial, ⟨⟨trivial, c24⟩, ⟨trivial, ⟨trivial, ⟨inb_ok t16, ⟨⟨inR_lt (inb_ok t16), trivial⟩, ⟨trivial, ⟨⟨trivial, c25⟩, ⟨trivial, ⟨trivial, ⟨inb_ok t16, ⟨⟨inR_lt (inb_ok t16), trivial⟩, ⟨trivial, ⟨trivial, ⟨trivial, trivial⟩⟩⟩⟩⟩⟩⟩⟩⟩⟩⟩⟩⟩⟩⟩⟩⟩⟩⟩⟩⟩⟩⟩⟩⟩⟩⟩⟩⟩⟩⟩⟩⟩⟩⟩⟩⟩⟩⟩⟩
                        refine TS.reg [.none, .none, .none, .none, .none, .dec false, .none, .none, .none, .none, .none, .none, .dec false, .none, .none, .none, .none, .none, .none, .dec false, .none, .none, .none, .none, .none, .none, .dec false, .none, .none, .none, .none, .none, .dec true] ?_ ?_
                        · apply prop_of ?_ hq
                          kernel_rfl
                        refine XS.reAny [0] (mkMask 110 [1, 3, 4, 92]) ((s_Marks.getD i.toNat (0 : Int)) != (0 : Int)) h ?_
                        kernel_rfl
                      · have hq : (True) ∧ ((True) ∧ ((inR i 32) ∧ ((i.toNat < 32 ∧ (True)) ∧ ((True) ∧ (((True) ∧ (decide ((s_Ends.getD i.toNat (0 : Int)) < (0 : Int))) = false) ∧ ((True) ∧ ((True) ∧ ((inR i 32) ∧ ((i.toNat < 32 ∧ (True)) ∧ ((True) ∧ ((True) ∧ (((True) ∧ (decide ((s_Ends.getD i.toNat (0 : Int)) > (3 : Int))) = false) ∧ ((True) ∧ ((True) ∧ ((inR i 32) ∧ ((i.toNat < 32 ∧ (True)) ∧ ((True) ∧ ((True) ∧ (((True) ∧ (decide ((s_Marks.getD i.toNat (0 : Int)) < (0 : Int))) = false) ∧ ((True) ∧ ((True) ∧ ((inR i 32) ∧ ((i.toNat < 32 ∧ (True)) ∧ ((True) ∧ ((True) ∧ (((True) ∧ (decide ((s_Marks.getD i.toNat (0 : Int)) > (65535 : Int))) = false) ∧ ((True) ∧ ((True) ∧ ((inR i 32) ∧ ((i.toNat < 32 ∧ (True)) ∧ ((True) ∧ (((True) ∧ ((s_Ends.getD i.toNat (0 : Int)) == (0 : Int)) = false) ∧ ((True) ∧ ((True) ∧ (True))))))))))))))))))))))))))))))))))) := ⟨trivial, ⟨trivial, ⟨inb_ok t16, ⟨⟨inR_lt (inb_ok t16), trivial⟩, ⟨trivial, ⟨⟨trivial, c18⟩, ⟨trivial, ⟨trivial, ⟨inb_ok t16, ⟨⟨inR_lt (inb_ok t16), trivial⟩, ⟨trivial, ⟨trivial, ⟨⟨trivial, c20⟩, ⟨trivial, ⟨trivial, ⟨inb_ok t16, ⟨⟨inR_lt (inb_ok t16), trivial⟩, ⟨trivial, ⟨trivial, ⟨⟨trivial, c22⟩, ⟨trivial, ⟨trivial, ⟨inb_ok t16, ⟨⟨inR_lt (inb_ok t16), trivial⟩, ⟨trivial, ⟨trivial, ⟨⟨trivial, c24⟩, ⟨trivial, ⟨trivial, ⟨inb_ok t16, ⟨⟨inR_lt (inb_ok t16), trivial⟩, ⟨trivial, ⟨⟨trivial, c26⟩, ⟨trivial, ⟨trivial, trivial⟩⟩⟩⟩⟩⟩⟩⟩⟩⟩⟩⟩⟩⟩⟩⟩⟩⟩⟩⟩⟩⟩⟩⟩⟩⟩⟩⟩⟩⟩⟩⟩⟩⟩⟩
                        refine TS.reg [.none, .none, .none, .none, .none, .dec false, .none, .none, .none, .none, .none, .none, .dec false, .none, .none, .none, .none, .none, .none, .dec false, .none, .none, .none, .none, .none, .none, .dec false, .none, .none, .none, .none, .none, .dec false] ?_ ?_
                        · apply prop_of ?_ hq
                          kernel_rfl
                        refine XS.reAny [0] (mkMask 110 [1, 3, 4, 92]) false h ?_
                        kernel_rfl
          · refine TS.cond (decide (i < (32 : Int))) ?_ (fun e => by rw [c8] at e; cases e) (fun e => ?_)
            · kernel_rfl
            refine TS.exit ?_
            refine XS.passE ?_
            refine XS.passE ?_
            refine XS.out ?_
            refine XS.then ?_
            refine TS.seq ?_
            have hq : (True) ∧ ((True) ∧ ((True) ∧ ((True) ∧ ((True) ∧ ((True) ∧ (True)))))) := ⟨trivial, ⟨trivial, ⟨trivial, ⟨trivial, ⟨trivial, ⟨trivial, trivial⟩⟩⟩⟩⟩⟩
            refine TS.reg [] ?_ ?_
            · apply prop_of ?_ hq
              kernel_rfl
            refine XS.then ?_
            refine TS.ret ?_
            obtain rfl : (more == (s_State == (3 : Int))) = r := Option.some.inj h
            exact XS.fin [] ((True) ∧ (True)) (by kernel_rfl) ⟨trivial, trivial⟩
    · rcases bif_some h with ⟨c27, h⟩ | ⟨c28, h⟩
      · have hq : (True) ∧ ((True) ∧ ((True) ∧ (((True) ∧ (decide (s_State > (3 : Int))) = true) ∧ ((True) ∧ ((True) ∧ ((True) ∧ ((True) ∧ ((True) ∧ ((True) ∧ ((True) ∧ ((True) ∧ ((True) ∧ (True))))))))))))) := ⟨trivial, ⟨trivial, ⟨trivial, ⟨⟨trivial, c27⟩, ⟨trivial, ⟨trivial, ⟨trivial, ⟨trivial, ⟨trivial, ⟨trivial, ⟨trivial, ⟨trivial, ⟨trivial, trivial⟩⟩⟩⟩⟩⟩⟩⟩⟩⟩⟩⟩⟩
        refine TS.reg [.none, .none, .none, .dec true] ?_ ?_
        · apply prop_of ?_ hq
          kernel_rfl
        refine XS.reAny [0] (mkMask 110 [1, 48]) true h ?_
        kernel_rfl
      · rcases bif_some h with ⟨c29, h⟩ | ⟨c30, h⟩
        · have hq : (True) ∧ ((True) ∧ ((True) ∧ (((True) ∧ (decide (s_State > (3 : Int))) = false) ∧ ((True) ∧ ((True) ∧ ((True) ∧ ((True) ∧ (((True) ∧ (decide (s_Addr < (1 : Int))) = true) ∧ ((True) ∧ ((True) ∧ ((True) ∧ ((True) ∧ ((True) ∧ ((True) ∧ ((True) ∧ (True)))))))))))))))) := ⟨trivial, ⟨trivial, ⟨trivial, ⟨⟨trivial, c28⟩, ⟨trivial, ⟨trivial, ⟨trivial, ⟨trivial, ⟨⟨trivial, c29⟩, ⟨trivial, ⟨trivial, ⟨trivial, ⟨trivial, ⟨trivial, ⟨trivial, ⟨trivial, trivial⟩⟩⟩⟩⟩⟩⟩⟩⟩⟩⟩⟩⟩⟩⟩⟩
          refine TS.reg [.none, .none, .none, .dec false, .none, .none, .none, .none, .dec true] ?_ ?_
          · apply prop_of ?_ hq
            kernel_rfl
          refine XS.reAny [0] (mkMask 110 [1, 48]) true h ?_
          kernel_rfl
        · rcases bif_some h with ⟨c31, h⟩ | ⟨c32, h⟩
          · have hq : (True) ∧ ((True) ∧ ((True) ∧ (((True) ∧ (decide (s_State > (3 : Int))) = false) ∧ ((True) ∧ ((True) ∧ ((True) ∧ ((True) ∧ (((True) ∧ (decide (s_Addr < (1 : Int))) = false) ∧ ((True) ∧ ((True) ∧ ((True) ∧ ((True) ∧ (((True) ∧ (decide (s_Addr > (127 : Int))) = true) ∧ ((True) ∧ ((True) ∧ ((True) ∧ ((True) ∧ ((True) ∧ (True))))))))))))))))))) := ⟨trivial, ⟨trivial, ⟨trivial, ⟨⟨trivial, c28⟩, ⟨trivial, ⟨trivial, ⟨trivial, ⟨trivial, ⟨⟨trivial, c30⟩, ⟨trivial, ⟨trivial, ⟨trivial, ⟨trivial, ⟨⟨trivial, c31⟩, ⟨trivial, ⟨trivial, ⟨trivial, ⟨trivial, ⟨trivial, trivial⟩⟩⟩⟩⟩⟩⟩⟩⟩⟩⟩⟩⟩⟩⟩⟩⟩⟩⟩
            refine TS.reg [.none, .none, .none, .dec false, .none, .none, .none, .none, .dec false, .none, .none, .none, .none, .dec true] ?_ ?_
            · apply prop_of ?_ hq
              kernel_rfl
            refine XS.reAny [0] (mkMask 110 [1, 48]) true h ?_
            kernel_rfl
          · rcases bif_some h with ⟨c33, h⟩ | ⟨c34, h⟩
            · have hq : (True) ∧ ((True) ∧ ((True) ∧ (((True) ∧ (decide (s_State > (3 : Int))) = false) ∧ ((True) ∧ ((True) ∧ ((True) ∧ ((True) ∧ (((True) ∧ (decide (s_Addr < (1 : Int))) = false) ∧ ((True) ∧ ((True) ∧ ((True) ∧ ((True) ∧ (((True) ∧ (decide (s_Addr > (127 : Int))) = false) ∧ ((True) ∧ ((inR (1 : Int) 32) ∧ ((1 < 32 ∧ (True)) ∧ ((True) ∧ ((True) ∧ (((True) ∧ ((s_Ends.getD 1 (0 : Int)) == (0 : Int)) = true) ∧ ((True) ∧ ((True) ∧ ((True) ∧ (True))))))))))))))))))))))) := ⟨trivial, ⟨trivial, ⟨trivial, ⟨⟨trivial, c28⟩, ⟨trivial, ⟨trivial, ⟨trivial, ⟨trivial, ⟨⟨trivial, c30⟩, ⟨trivial, ⟨trivial, ⟨trivial, ⟨trivial, ⟨⟨trivial, c32⟩, ⟨trivial, ⟨⟨by decide, by decide⟩, ⟨⟨(by decide), trivial⟩, ⟨trivial, ⟨trivial, ⟨⟨trivial, c33⟩, ⟨trivial, ⟨trivial, ⟨trivial, trivial⟩⟩⟩⟩⟩⟩⟩⟩⟩⟩⟩⟩⟩⟩⟩⟩⟩⟩⟩⟩⟩⟩⟩
              refine TS.reg [.none, .none, .none, .dec false, .none, .none, .none, .none, .dec false, .none, .none, .none, .none, .dec false, .none, .none, .none, .none, .none, .dec true] ?_ ?_
              · apply prop_of ?_ hq
                kernel_rfl
              refine XS.reAny [0] (mkMask 110 [1, 48]) true h ?_
              kernel_rfl
            · rcases bif_some h with ⟨c35, h⟩ | ⟨c36, h⟩
              · have hq : (True) ∧ ((True) ∧ ((True) ∧ (((True) ∧ (decide (s_State > (3 : Int))) = false) ∧ ((True) ∧ ((True) ∧ ((True) ∧ ((True) ∧ (((True) ∧ (decide (s_Addr < (1 : Int))) = false) ∧ ((True) ∧ ((True) ∧ ((True) ∧ ((True) ∧ (((True) ∧ (decide (s_Addr > (127 : Int))) = false) ∧ ((True) ∧ ((inR (1 : Int) 32) ∧ ((1 < 32 ∧ (True)) ∧ ((True) ∧ ((True) ∧ (((True) ∧ ((s_Ends.getD 1 (0 : Int)) == (0 : Int)) = false) ∧ ((True) ∧ ((inR (0 : Int) 32) ∧ ((0 < 32 ∧ (True)) ∧ ((True) ∧ ((True) ∧ (((True) ∧ ((s_Ends.getD 0 (0 : Int)) != (0 : Int)) = true) ∧ ((True) ∧ (True))))))))))))))))))))))))))) := ⟨trivial, ⟨trivial, ⟨trivial, ⟨⟨trivial, c28⟩, ⟨trivial, ⟨trivial, ⟨trivial, ⟨trivial, ⟨⟨trivial, c30⟩, ⟨trivial, ⟨trivial, ⟨trivial, ⟨trivial, ⟨⟨trivial, c32⟩, ⟨trivial, ⟨⟨by decide, by decide⟩, ⟨⟨(by decide), trivial⟩, ⟨trivial, ⟨trivial, ⟨⟨trivial, c34⟩, ⟨trivial, ⟨⟨by decide, by decide⟩, ⟨⟨(by decide), trivial⟩, ⟨trivial, ⟨trivial, ⟨⟨trivial, c35⟩, ⟨trivial, trivial⟩⟩⟩⟩⟩⟩⟩⟩⟩⟩⟩⟩⟩⟩⟩⟩⟩⟩⟩⟩⟩⟩⟩⟩⟩⟩⟩
                refine TS.reg [.none, .none, .none, .dec false, .none, .none, .none, .none, .dec false, .none, .none, .none, .none, .dec false, .none, .none, .none, .none, .none, .dec false, .none, .none, .none, .none, .none, .dec true] ?_ ?_
                · apply prop_of ?_ hq
                  kernel_rfl
                refine XS.reAny [0] (mkMask 110 [1, 48]) true h ?_
                kernel_rfl
              · have hq : (True) ∧ ((True) ∧ ((True) ∧ (((True) ∧ (decide (s_State > (3 : Int))) = false) ∧ ((True) ∧ ((True) ∧ ((True) ∧ ((True) ∧ (((True) ∧ (decide (s_Addr < (1 : Int))) = false) ∧ ((True) ∧ ((True) ∧ ((True) ∧ ((True) ∧ (((True) ∧ (decide (s_Addr > (127 : Int))) = false) ∧ ((True) ∧ ((inR (1 : Int) 32) ∧ ((1 < 32 ∧ (True)) ∧ ((True) ∧ ((True) ∧ (((True) ∧ ((s_Ends.getD 1 (0 : Int)) == (0 : Int)) = false) ∧ ((True) ∧ ((inR (0 : Int) 32) ∧ ((0 < 32 ∧ (True)) ∧ ((True) ∧ ((True) ∧ (((True) ∧ ((s_Ends.getD 0 (0 : Int)) != (0 : Int)) = false) ∧ ((True) ∧ ((inR (0 : Int) 32) ∧ ((0 < 32 ∧ (True)) ∧ ((True) ∧ ((True) ∧ (True))))))))))))))))))))))))))))))) := ⟨trivial, ⟨trivial, ⟨trivial, ⟨⟨trivial, c28⟩, ⟨trivial, ⟨trivial, ⟨trivial, ⟨trivial, ⟨⟨trivial, c30⟩, ⟨trivial, ⟨trivial, ⟨trivial, ⟨trivial, ⟨⟨trivial, c32⟩, ⟨trivial, ⟨⟨by decide, by decide⟩, ⟨⟨(by decide), trivial⟩, ⟨trivial, ⟨trivial, ⟨⟨trivial, c34⟩, ⟨trivial, ⟨⟨by decide, by decide⟩, ⟨⟨(by decide), trivial⟩, ⟨trivial, ⟨trivial, ⟨⟨trivial, c36⟩, ⟨trivial, ⟨⟨by decide, by decide⟩, ⟨⟨(by decide), trivial⟩, ⟨trivial, ⟨trivial, trivial⟩⟩⟩⟩⟩⟩⟩⟩⟩⟩⟩⟩⟩⟩⟩⟩⟩⟩⟩⟩⟩⟩⟩⟩⟩⟩⟩⟩⟩⟩⟩
                refine TS.reg [.none, .none, .none, .dec false, .none, .none, .none, .none, .dec false, .none, .none, .none, .none, .dec false, .none, .none, .none, .none, .none, .dec false, .none, .none, .none, .none, .none, .dec false] ?_ ?_
                · apply prop_of ?_ hq
                  kernel_rfl
                refine XS.reAny [0] (mkMask 110 [1, 48]) ((s_Marks.getD 0 (0 : Int)) != (0 : Int)) h ?_
                kernel_rfl

/-! plugtree/slots.Check -/
def F66_l8 (n : Nat) (k66_7 : Int → Option Int) (b_Slots : List (Int × Int × (List Int) × List Int)) (i : Int) (k66_8 : Int → Option Int) : Int → Option Int
  | k => (bif (decide (k < i)) then (bif ((b_Slots.getD i.toNat ((0 : Int), ((0 : Int), ((List.replicate 32 (0 : Int)), (List.replicate 32 (0 : Int)))))).2.1 != (0 : Int)) then (bif inb k 9 then (bif ((b_Slots.getD i.toNat ((0 : Int), ((0 : Int), ((List.replicate 32 (0 : Int)), (List.replicate 32 (0 : Int)))))).2.1 == (b_Slots.getD k.toNat ((0 : Int), ((0 : Int), ((List.replicate 32 (0 : Int)), (List.replicate 32 (0 : Int)))))).2.1) then (some (4 : Int)) else (k66_8 (IntKind.wrap .i64 (k + (1 : Int))))) else none) else (k66_8 (IntKind.wrap .i64 (k + (1 : Int))))) else (k66_7 (IntKind.wrap .i64 (i + (1 : Int)))))
def F66_l7 (n : Nat) (b_Slots : List (Int × Int × (List Int) × List Int)) (k66_7 : Int → Option Int) : Int → Option Int
  | i => (bif (decide (i < (9 : Int))) then (bif inb i 9 then ((F111 n ((b_Slots.getD i.toNat ((0 : Int), ((0 : Int), ((List.replicate 32 (0 : Int)), (List.replicate 32 (0 : Int)))))).1) ((b_Slots.getD i.toNat ((0 : Int), ((0 : Int), ((List.replicate 32 (0 : Int)), (List.replicate 32 (0 : Int)))))).2.1) ((b_Slots.getD i.toNat ((0 : Int), ((0 : Int), ((List.replicate 32 (0 : Int)), (List.replicate 32 (0 : Int)))))).2.2.1) ((b_Slots.getD i.toNat ((0 : Int), ((0 : Int), ((List.replicate 32 (0 : Int)), (List.replicate 32 (0 : Int)))))).2.2.2)).bind fun y_2 => (bif (!y_2) then (some (4 : Int)) else (loopF (F66_l8 n k66_7 b_Slots i) n (1 : Int)))) else none) else (some (0 : Int)))
def F66 (n : Nat) (b_Slots : List (Int × Int × (List Int) × List Int)) : Option Int := (bif (!(Sh.beq (.st (.pair (.int .i64) (.pair (.int .i64) (.pair (.arr 32 (.int .i64)) (.arr 32 (.int .i64)))))) ((b_Slots.getD 0 ((0 : Int), ((0 : Int), ((List.replicate 32 (0 : Int)), (List.replicate 32 (0 : Int)))))).1, ((b_Slots.getD 0 ((0 : Int), ((0 : Int), ((List.replicate 32 (0 : Int)), (List.replicate 32 (0 : Int)))))).2.1, ((b_Slots.getD 0 ((0 : Int), ((0 : Int), ((List.replicate 32 (0 : Int)), (List.replicate 32 (0 : Int)))))).2.2.1, (b_Slots.getD 0 ((0 : Int), ((0 : Int), ((List.replicate 32 (0 : Int)), (List.replicate 32 (0 : Int)))))).2.2.2))) ((0 : Int), ((0 : Int), ((List.replicate 32 (0 : Int)), (List.replicate 32 (0 : Int))))))) then (some (4 : Int)) else (loopF (F66_l7 n b_Slots) n (1 : Int)))
theorem F66_ok (n : Nat) (b_Slots : List (Int × Int × (List Int) × List Int)) (r : Int) (h : F66 n b_Slots = some r) : PureC Try.prog 66 [(.st (.arr 9 (.st (.pair (.int .i64) (.pair (.int .i64) (.pair (.arr 32 (.int .i64)) (.arr 32 (.int .i64)))))) b_Slots))] (.int .i64 r) [] := by
  refine PureC.mkS Try.func66 rfl rfl ?_
  intro w0 fz0 hfz
  replace h : (bif (!(Sh.beq (.st (.pair (.int .i64) (.pair (.int .i64) (.pair (.arr 32 (.int .i64)) (.arr 32 (.int .i64)))))) ((b_Slots.getD 0 ((0 : Int), ((0 : Int), ((List.replicate 32 (0 : Int)), (List.replicate 32 (0 : Int)))))).1, ((b_Slots.getD 0 ((0 : Int), ((0 : Int), ((List.replicate 32 (0 : Int)), (List.replicate 32 (0 : Int)))))).2.1, ((b_Slots.getD 0 ((0 : Int), ((0 : Int), ((List.replicate 32 (0 : Int)), (List.replicate 32 (0 : Int)))))).2.2.1, (b_Slots.getD 0 ((0 : Int), ((0 : Int), ((List.replicate 32 (0 : Int)), (List.replicate 32 (0 : Int)))))).2.2.2))) ((0 : Int), ((0 : Int), ((List.replicate 32 (0 : Int)), (List.replicate 32 (0 : Int))))))) then (some (4 : Int)) else (loopF (F66_l7 n b_Slots) n (1 : Int))) = some r := h
  refine TS.seq ?_
  have hq : (True) ∧ ((True) ∧ (True)) := ⟨trivial, ⟨trivial, trivial⟩⟩
  refine TS.reg [] ?_ ?_
  · apply prop_of ?_ hq
    kernel_rfl
  refine XS.then ?_
  refine TS.seq ?_
  refine TS.seq ?_
  have hq : (True) ∧ ((inR (0 : Int) 9) ∧ ((0 < 9 ∧ (True)) ∧ ((True) ∧ ((True) ∧ (True))))) := ⟨trivial, ⟨⟨by decide, by decide⟩, ⟨⟨(by decide), trivial⟩, ⟨trivial, ⟨trivial, trivial⟩⟩⟩⟩⟩
  refine TS.reg [] ?_ ?_
  · apply prop_of ?_ hq
    kernel_rfl
  refine XS.then ?_
  rcases bif_some h with ⟨c1, h⟩ | ⟨c2, h⟩
  · refine TS.cond (!(Sh.beq (.st (.pair (.int .i64) (.pair (.int .i64) (.pair (.arr 32 (.int .i64)) (.arr 32 (.int .i64)))))) ((b_Slots.getD 0 ((0 : Int), ((0 : Int), ((List.replicate 32 (0 : Int)), (List.replicate 32 (0 : Int)))))).1, ((b_Slots.getD 0 ((0 : Int), ((0 : Int), ((List.replicate 32 (0 : Int)), (List.replicate 32 (0 : Int)))))).2.1, ((b_Slots.getD 0 ((0 : Int), ((0 : Int), ((List.replicate 32 (0 : Int)), (List.replicate 32 (0 : Int)))))).2.2.1, (b_Slots.getD 0 ((0 : Int), ((0 : Int), ((List.replicate 32 (0 : Int)), (List.replicate 32 (0 : Int)))))).2.2.2))) ((0 : Int), ((0 : Int), ((List.replicate 32 (0 : Int)), (List.replicate 32 (0 : Int))))))) ?_ (fun e => ?_) (fun e => by rw [c1] at e; cases e)
    · kernel_rfl
    refine TS.seq ?_
    have hq : (True) ∧ (True) := ⟨trivial, trivial⟩
    refine TS.reg [] ?_ ?_
    · apply prop_of ?_ hq
      kernel_rfl
    refine XS.then ?_
    refine TS.ret ?_
    refine XS.passR ?_
    obtain rfl : (4 : Int) = r := Option.some.inj h
    exact XS.fin [] ((True) ∧ (True)) (by kernel_rfl) ⟨trivial, trivial⟩
  · refine TS.cond (!(Sh.beq (.st (.pair (.int .i64) (.pair (.int .i64) (.pair (.arr 32 (.int .i64)) (.arr 32 (.int .i64)))))) ((b_Slots.getD 0 ((0 : Int), ((0 : Int), ((List.replicate 32 (0 : Int)), (List.replicate 32 (0 : Int)))))).1, ((b_Slots.getD 0 ((0 : Int), ((0 : Int), ((List.replicate 32 (0 : Int)), (List.replicate 32 (0 : Int)))))).2.1, ((b_Slots.getD 0 ((0 : Int), ((0 : Int), ((List.replicate 32 (0 : Int)), (List.replicate 32 (0 : Int)))))).2.2.1, (b_Slots.getD 0 ((0 : Int), ((0 : Int), ((List.replicate 32 (0 : Int)), (List.replicate 32 (0 : Int)))))).2.2.2))) ((0 : Int), ((0 : Int), ((List.replicate 32 (0 : Int)), (List.replicate 32 (0 : Int))))))) ?_ (fun e => by rw [c2] at e; cases e) (fun e => ?_)
    · kernel_rfl
    refine TS.skip ?_
    refine XS.then ?_
    refine TS.seq ?_
    refine TS.seq ?_
    have hq : (True) ∧ (True) := ⟨trivial, trivial⟩
    refine TS.reg [] ?_ ?_
    · apply prop_of ?_ hq
      kernel_rfl
    refine XS.then ?_
    refine TS.block ?_
    refine TS.reLoop [0] (mkMask 44 [1, 3]) (D := Int) (fun d => match d with | i => (mkTs 44 [(1, (.ptr 0 [])), (3, (.int .i64 i))], [(.box 27 (.st (.arr 9 (.st (.pair (.int .i64) (.pair (.int .i64) (.pair (.arr 32 (.int .i64)) (.arr 32 (.int .i64)))))) b_Slots)))])) (fun n' d => loopF (F66_l7 n b_Slots) n' d = some r) n (1 : Int) h ?_ (fun d => loopF_zero _ d r) ?_
    · kernel_rfl
    · rintro n7 i h
      replace h : (bif (decide (i < (9 : Int))) then (bif inb i 9 then ((F111 n ((b_Slots.getD i.toNat ((0 : Int), ((0 : Int), ((List.replicate 32 (0 : Int)), (List.replicate 32 (0 : Int)))))).1) ((b_Slots.getD i.toNat ((0 : Int), ((0 : Int), ((List.replicate 32 (0 : Int)), (List.replicate 32 (0 : Int)))))).2.1) ((b_Slots.getD i.toNat ((0 : Int), ((0 : Int), ((List.replicate 32 (0 : Int)), (List.replicate 32 (0 : Int)))))).2.2.1) ((b_Slots.getD i.toNat ((0 : Int), ((0 : Int), ((List.replicate 32 (0 : Int)), (List.replicate 32 (0 : Int)))))).2.2.2)).bind fun y_2 => (bif (!y_2) then (some (4 : Int)) else (loopF (F66_l8 n (loopF (F66_l7 n b_Slots) n7) b_Slots i) n (1 : Int)))) else none) else (some (0 : Int))) = some r := h
      refine TS.seq ?_
      refine TS.seq ?_
      have hq : (True) ∧ ((True) ∧ (True)) := ⟨trivial, ⟨trivial, trivial⟩⟩
      refine TS.reg [] ?_ ?_
      · apply prop_of ?_ hq
        kernel_rfl
      refine XS.then ?_
      rcases bif_some h with ⟨c3, h⟩ | ⟨c4, h⟩
      · refine TS.cond (decide (i < (9 : Int))) ?_ (fun e => ?_) (fun e => by rw [c3] at e; cases e)
        · kernel_rfl
        refine TS.skip ?_
        refine XS.then ?_
        refine TS.seq ?_
        refine TS.block ?_
        refine TS.seq ?_
        refine TS.seq ?_
        obtain ⟨t5, h⟩ := test_some h
        obtain ⟨y_2, hx6, h⟩ := bind_some' h
        have hq : (True) ∧ ((True) ∧ ((inR i 9) ∧ ((i.toNat < 9 ∧ (True)) ∧ ((PureC Try.prog 111 [(.st (.cons (.int .i64 (b_Slots.getD i.toNat ((0 : Int), ((0 : Int), ((List.replicate 32 (0 : Int)), (List.replicate 32 (0 : Int)))))).1) (.cons (.int .i64 (b_Slots.getD i.toNat ((0 : Int), ((0 : Int), ((List.replicate 32 (0 : Int)), (List.replicate 32 (0 : Int)))))).2.1) (.cons (.arr 32 (.int .i64) (b_Slots.getD i.toNat ((0 : Int), ((0 : Int), ((List.replicate 32 (0 : Int)), (List.replicate 32 (0 : Int)))))).2.2.1) (.arr 32 (.int .i64) (b_Slots.getD i.toNat ((0 : Int), ((0 : Int), ((List.replicate 32 (0 : Int)), (List.replicate 32 (0 : Int)))))).2.2.2)))))] (.bool y_2) []) ∧ ((True) ∧ (True)))))) := ⟨trivial, ⟨trivial, ⟨inb_ok t5, ⟨⟨inR_lt (inb_ok t5), trivial⟩, ⟨F111_ok n ((b_Slots.getD i.toNat ((0 : Int), ((0 : Int), ((List.replicate 32 (0 : Int)), (List.replicate 32 (0 : Int)))))).1) ((b_Slots.getD i.toNat ((0 : Int), ((0 : Int), ((List.replicate 32 (0 : Int)), (List.replicate 32 (0 : Int)))))).2.1) ((b_Slots.getD i.toNat ((0 : Int), ((0 : Int), ((List.replicate 32 (0 : Int)), (List.replicate 32 (0 : Int)))))).2.2.1) ((b_Slots.getD i.toNat ((0 : Int), ((0 : Int), ((List.replicate 32 (0 : Int)), (List.replicate 32 (0 : Int)))))).2.2.2) y_2 hx6, ⟨trivial, trivial⟩⟩⟩⟩⟩⟩
        refine TS.reg [.none, .none, .none, .none, (.call (.bool y_2) [])] ?_ ?_
        · apply prop_of ?_ hq
          kernel_rfl
        refine XS.then ?_
        rcases bif_some h with ⟨c7, h⟩ | ⟨c8, h⟩
        · refine TS.cond (!y_2) ?_ (fun e => ?_) (fun e => by rw [c7] at e; cases e)
          · kernel_rfl
          refine TS.seq ?_
          have hq : (True) ∧ (True) := ⟨trivial, trivial⟩
          refine TS.reg [] ?_ ?_
          · apply prop_of ?_ hq
            kernel_rfl
          refine XS.then ?_
          refine TS.ret ?_
          refine XS.passR ?_
          refine XS.blockRet ?_
          refine XS.passR ?_
          refine XS.passR ?_
          refine XS.blockRet ?_
          refine XS.passR ?_
          obtain rfl : (4 : Int) = r := Option.some.inj h
          exact XS.fin [] ((True) ∧ (True)) (by kernel_rfl) ⟨trivial, trivial⟩
        · refine TS.cond (!y_2) ?_ (fun e => by rw [c8] at e; cases e) (fun e => ?_)
          · kernel_rfl
          refine TS.skip ?_
          refine XS.then ?_
          refine TS.seq ?_
          have hq : (True) ∧ (True) := ⟨trivial, trivial⟩
          refine TS.reg [] ?_ ?_
          · apply prop_of ?_ hq
            kernel_rfl
          refine XS.then ?_
          refine TS.block ?_
          refine TS.reLoop [0] (mkMask 44 [1, 3, 4]) (D := Int) (fun d => match d with | k => (mkTs 44 [(1, (.ptr 0 [])), (3, (.int .i64 i)), (4, (.int .i64 k))], [(.box 27 (.st (.arr 9 (.st (.pair (.int .i64) (.pair (.int .i64) (.pair (.arr 32 (.int .i64)) (.arr 32 (.int .i64)))))) b_Slots)))])) (fun n' d => loopF (F66_l8 n (loopF (F66_l7 n b_Slots) n7) b_Slots i) n' d = some r) n (1 : Int) h ?_ (fun d => loopF_zero _ d r) ?_
          · kernel_rfl
          · rintro n8 k h
            replace h : (bif (decide (k < i)) then (bif ((b_Slots.getD i.toNat ((0 : Int), ((0 : Int), ((List.replicate 32 (0 : Int)), (List.replicate 32 (0 : Int)))))).2.1 != (0 : Int)) then (bif inb k 9 then (bif ((b_Slots.getD i.toNat ((0 : Int), ((0 : Int), ((List.replicate 32 (0 : Int)), (List.replicate 32 (0 : Int)))))).2.1 == (b_Slots.getD k.toNat ((0 : Int), ((0 : Int), ((List.replicate 32 (0 : Int)), (List.replicate 32 (0 : Int)))))).2.1) then (some (4 : Int)) else ((loopF (F66_l8 n (loopF (F66_l7 n b_Slots) n7) b_Slots i) n8) (IntKind.wrap .i64 (k + (1 : Int))))) else none) else ((loopF (F66_l8 n (loopF (F66_l7 n b_Slots) n7) b_Slots i) n8) (IntKind.wrap .i64 (k + (1 : Int))))) else ((loopF (F66_l7 n b_Slots) n7) (IntKind.wrap .i64 (i + (1 : Int))))) = some r := h
            refine TS.seq ?_
            refine TS.seq ?_
            have hq : (True) ∧ ((True) ∧ ((True) ∧ (True))) := ⟨trivial, ⟨trivial, ⟨trivial, trivial⟩⟩⟩
            refine TS.reg [] ?_ ?_
            · apply prop_of ?_ hq
              kernel_rfl
            refine XS.then ?_
            rcases bif_some h with ⟨c9, h⟩ | ⟨c10, h⟩
            · refine TS.cond (decide (k < i)) ?_ (fun e => ?_) (fun e => by rw [c9] at e; cases e)
              · kernel_rfl
              refine TS.skip ?_
              refine XS.then ?_
              refine TS.seq ?_
              refine TS.block ?_
              refine TS.seq ?_
              rcases bif_some h with ⟨c11, h⟩ | ⟨c12, h⟩
              · obtain ⟨t13, h⟩ := test_some h
                have hq : ((True) ∧ ((True) ∧ ((inR i 9) ∧ ((True) ∧ ((i.toNat < 9 ∧ (True)) ∧ ((True) ∧ (((True) ∧ ((b_Slots.getD i.toNat ((0 : Int), ((0 : Int), ((List.replicate 32 (0 : Int)), (List.replicate 32 (0 : Int)))))).2.1 != (0 : Int)) = true) ∧ ((True) ∧ ((True) ∧ ((inR i 9) ∧ ((True) ∧ ((i.toNat < 9 ∧ (True)) ∧ ((True) ∧ ((True) ∧ ((inR k 9) ∧ ((True) ∧ ((k.toNat < 9 ∧ (True)) ∧ ((True) ∧ ((True) ∧ (True)))))))))))))))))))) ∧ (True) := ⟨⟨trivial, ⟨trivial, ⟨inb_ok t5, ⟨trivial, ⟨⟨inR_lt (inb_ok t5), trivial⟩, ⟨trivial, ⟨⟨trivial, c11⟩, ⟨trivial, ⟨trivial, ⟨inb_ok t5, ⟨trivial, ⟨⟨inR_lt (inb_ok t5), trivial⟩, ⟨trivial, ⟨trivial, ⟨inb_ok t13, ⟨trivial, ⟨⟨inR_lt (inb_ok t13), trivial⟩, ⟨trivial, ⟨trivial, trivial⟩⟩⟩⟩⟩⟩⟩⟩⟩⟩⟩⟩⟩⟩⟩⟩⟩⟩⟩, trivial⟩
                refine TS.draw 19 [] [.none, .none, .none, .none, .none, .none, .dec true] (by kernel_rfl) ?_ ?_
                · apply prop_of ?_ hq
                  kernel_rfl
                refine XS.then ?_
                rcases bif_some h with ⟨c14, h⟩ | ⟨c15, h⟩
                · refine TS.cond ((b_Slots.getD i.toNat ((0 : Int), ((0 : Int), ((List.replicate 32 (0 : Int)), (List.replicate 32 (0 : Int)))))).2.1 == (b_Slots.getD k.toNat ((0 : Int), ((0 : Int), ((List.replicate 32 (0 : Int)), (List.replicate 32 (0 : Int)))))).2.1) ?_ (fun e => ?_) (fun e => by rw [c14] at e; cases e)
                  · kernel_rfl
                  refine TS.seq ?_
                  have hq : (True) ∧ (True) := ⟨trivial, trivial⟩
                  refine TS.reg [] ?_ ?_
                  · apply prop_of ?_ hq
                    kernel_rfl
                  refine XS.then ?_
                  refine TS.ret ?_
                  refine XS.blockRet ?_
                  refine XS.passR ?_
                  refine XS.passR ?_
                  refine XS.blockRet ?_
                  refine XS.blockRet ?_
                  refine XS.passR ?_
                  refine XS.passR ?_
                  refine XS.blockRet ?_
                  refine XS.passR ?_
                  obtain rfl : (4 : Int) = r := Option.some.inj h
                  exact XS.fin [] ((True) ∧ (True)) (by kernel_rfl) ⟨trivial, trivial⟩
                · refine TS.cond ((b_Slots.getD i.toNat ((0 : Int), ((0 : Int), ((List.replicate 32 (0 : Int)), (List.replicate 32 (0 : Int)))))).2.1 == (b_Slots.getD k.toNat ((0 : Int), ((0 : Int), ((List.replicate 32 (0 : Int)), (List.replicate 32 (0 : Int)))))).2.1) ?_ (fun e => by rw [c15] at e; cases e) (fun e => ?_)
                  · kernel_rfl
                  refine TS.skip ?_
                  refine XS.blockEnd ?_
                  refine XS.then ?_
                  have hq : (True) ∧ ((True) ∧ ((True) ∧ (True))) := ⟨trivial, ⟨trivial, ⟨trivial, trivial⟩⟩⟩
                  refine TS.reg [] ?_ ?_
                  · apply prop_of ?_ hq
                    kernel_rfl
                  refine XS.reAny [0] (mkMask 44 [1, 3, 4]) (IntKind.wrap .i64 (k + (1 : Int))) h ?_
                  kernel_rfl
              · have hq : ((True) ∧ ((True) ∧ ((inR i 9) ∧ ((True) ∧ ((i.toNat < 9 ∧ (True)) ∧ ((True) ∧ (((True) ∧ ((b_Slots.getD i.toNat ((0 : Int), ((0 : Int), ((List.replicate 32 (0 : Int)), (List.replicate 32 (0 : Int)))))).2.1 != (0 : Int)) = false) ∧ ((True) ∧ (True))))))))) ∧ (True) := ⟨⟨trivial, ⟨trivial, ⟨inb_ok t5, ⟨trivial, ⟨⟨inR_lt (inb_ok t5), trivial⟩, ⟨trivial, ⟨⟨trivial, c12⟩, ⟨trivial, trivial⟩⟩⟩⟩⟩⟩⟩⟩, trivial⟩
                refine TS.draw 19 [] [.none, .none, .none, .none, .none, .none, .dec false] (by kernel_rfl) ?_ ?_
                · apply prop_of ?_ hq
                  kernel_rfl
                refine XS.then ?_
                refine TS.no ?_ ?_
                · kernel_rfl
                refine TS.skip ?_
                refine XS.blockEnd ?_
                refine XS.then ?_
                have hq : (True) ∧ ((True) ∧ ((True) ∧ (True))) := ⟨trivial, ⟨trivial, ⟨trivial, trivial⟩⟩⟩
                refine TS.reg [] ?_ ?_
                · apply prop_of ?_ hq
                  kernel_rfl
                refine XS.reAny [0] (mkMask 44 [1, 3, 4]) (IntKind.wrap .i64 (k + (1 : Int))) h ?_
                kernel_rfl
            · refine TS.cond (decide (k < i)) ?_ (fun e => by rw [c10] at e; cases e) (fun e => ?_)
              · kernel_rfl
              refine TS.exit ?_
              refine XS.passE ?_
              refine XS.passE ?_
              refine XS.out ?_
              refine XS.blockEnd ?_
              refine XS.then ?_
              have hq : (True) ∧ ((True) ∧ ((True) ∧ (True))) := ⟨trivial, ⟨trivial, ⟨trivial, trivial⟩⟩⟩
              refine TS.reg [] ?_ ?_
              · apply prop_of ?_ hq
                kernel_rfl
              refine XS.reAny [0] (mkMask 44 [1, 3]) (IntKind.wrap .i64 (i + (1 : Int))) h ?_
              kernel_rfl
      · refine TS.cond (decide (i < (9 : Int))) ?_ (fun e => by rw [c4] at e; cases e) (fun e => ?_)
        · kernel_rfl
        refine TS.exit ?_
        refine XS.passE ?_
        refine XS.passE ?_
        refine XS.out ?_
        refine XS.then ?_
        refine TS.seq ?_
        have hq : (True) ∧ (True) := ⟨trivial, trivial⟩
        refine TS.reg [] ?_ ?_
        · apply prop_of ?_ hq
          kernel_rfl
        refine XS.then ?_
        refine TS.ret ?_
        obtain rfl : (0 : Int) = r := Option.some.inj h
        exact XS.fin [] ((True) ∧ (True)) (by kernel_rfl) ⟨trivial, trivial⟩

/-! plugtree/slots.Halt -/
def F17_j2 (n : Nat) (b_Slots : List (Int × Int × (List Int) × List Int)) (slot : Int) (vend : Int) : Bool → Option (List (Int × Int × (List Int) × List Int))
  | x => (bif x then (some b_Slots) else (bif inb slot 9 then (bif inb vend 32 then (bif ((((b_Slots.getD slot.toNat ((0 : Int), ((0 : Int), ((List.replicate 32 (0 : Int)), (List.replicate 32 (0 : Int)))))).2.2.1).getD vend.toNat (0 : Int)) == (1 : Int)) then (some (b_Slots.set slot.toNat ((b_Slots.getD slot.toNat ((0 : Int), ((0 : Int), ((List.replicate 32 (0 : Int)), (List.replicate 32 (0 : Int)))))).1, ((b_Slots.getD slot.toNat ((0 : Int), ((0 : Int), ((List.replicate 32 (0 : Int)), (List.replicate 32 (0 : Int)))))).2.1, ((((b_Slots.getD slot.toNat ((0 : Int), ((0 : Int), ((List.replicate 32 (0 : Int)), (List.replicate 32 (0 : Int)))))).2.2.1).set vend.toNat (2 : Int)), (b_Slots.getD slot.toNat ((0 : Int), ((0 : Int), ((List.replicate 32 (0 : Int)), (List.replicate 32 (0 : Int)))))).2.2.2))))) else (some b_Slots)) else none) else none))
def F17 (n : Nat) (b_Slots : List (Int × Int × (List Int) × List Int)) (slot : Int) (vend : Int) : Option (List (Int × Int × (List Int) × List Int)) := ((F66 n b_Slots).bind fun y_2 => (bif (y_2 != (0 : Int)) then (F17_j2 n b_Slots slot vend true) else (bif (decide (slot < (1 : Int))) then (F17_j2 n b_Slots slot vend true) else (bif (decide (slot > (8 : Int))) then (F17_j2 n b_Slots slot vend true) else (bif (decide (vend < (1 : Int))) then (F17_j2 n b_Slots slot vend true) else (F17_j2 n b_Slots slot vend (decide (vend > (31 : Int)))))))))
theorem F17_ok (n : Nat) (b_Slots : List (Int × Int × (List Int) × List Int)) (slot : Int) (vend : Int) (r : List (Int × Int × (List Int) × List Int)) (h : F17 n b_Slots slot vend = some r) : PureC Try.prog 17 [(.st (.arr 9 (.st (.pair (.int .i64) (.pair (.int .i64) (.pair (.arr 32 (.int .i64)) (.arr 32 (.int .i64)))))) b_Slots)), (.int .i64 slot), (.int .i64 vend)] (.st (.arr 9 (.st (.pair (.int .i64) (.pair (.int .i64) (.pair (.arr 32 (.int .i64)) (.arr 32 (.int .i64)))))) r)) [] := by
  refine PureC.mkS Try.func17 rfl rfl ?_
  intro w0 fz0 hfz
  replace h : ((F66 n b_Slots).bind fun y_2 => (bif (y_2 != (0 : Int)) then (F17_j2 n b_Slots slot vend true) else (bif (decide (slot < (1 : Int))) then (F17_j2 n b_Slots slot vend true) else (bif (decide (slot > (8 : Int))) then (F17_j2 n b_Slots slot vend true) else (bif (decide (vend < (1 : Int))) then (F17_j2 n b_Slots slot vend true) else (F17_j2 n b_Slots slot vend (decide (vend > (31 : Int))))))))) = some r := h
  refine TS.seq ?_
  have hq : (True) ∧ ((True) ∧ (True)) := ⟨trivial, ⟨trivial, trivial⟩⟩
  refine TS.reg [] ?_ ?_
  · apply prop_of ?_ hq
    kernel_rfl
  refine XS.then ?_
  refine TS.seq ?_
  refine TS.seq ?_
  refine TS.cut (D := Bool) (fun d => match d with | x => (mkTs 41 [(1, (.int .i64 slot)), (2, (.int .i64 vend)), (3, (.ptr 0 [])), (6, (.ptr 1 [])), (26, (.bool x))], [(.box 27 (.st (.arr 9 (.st (.pair (.int .i64) (.pair (.int .i64) (.pair (.arr 32 (.int .i64)) (.arr 32 (.int .i64)))))) b_Slots))), (.box 27 (.st (.arr 9 (.st (.pair (.int .i64) (.pair (.int .i64) (.pair (.arr 32 (.int .i64)) (.arr 32 (.int .i64)))))) (List.replicate 9 ((0 : Int), ((0 : Int), ((List.replicate 32 (0 : Int)), (List.replicate 32 (0 : Int)))))))))])) (fun d => F17_j2 n b_Slots slot vend d = some r) ?_ ?_
  · rintro x h
    replace h : (bif x then (some b_Slots) else (bif inb slot 9 then (bif inb vend 32 then (bif ((((b_Slots.getD slot.toNat ((0 : Int), ((0 : Int), ((List.replicate 32 (0 : Int)), (List.replicate 32 (0 : Int)))))).2.2.1).getD vend.toNat (0 : Int)) == (1 : Int)) then (some (b_Slots.set slot.toNat ((b_Slots.getD slot.toNat ((0 : Int), ((0 : Int), ((List.replicate 32 (0 : Int)), (List.replicate 32 (0 : Int)))))).1, ((b_Slots.getD slot.toNat ((0 : Int), ((0 : Int), ((List.replicate 32 (0 : Int)), (List.replicate 32 (0 : Int)))))).2.1, ((((b_Slots.getD slot.toNat ((0 : Int), ((0 : Int), ((List.replicate 32 (0 : Int)), (List.replicate 32 (0 : Int)))))).2.2.1).set vend.toNat (2 : Int)), (b_Slots.getD slot.toNat ((0 : Int), ((0 : Int), ((List.replicate 32 (0 : Int)), (List.replicate 32 (0 : Int)))))).2.2.2))))) else (some b_Slots)) else none) else none)) = some r := h
    refine XS.then ?_
    rcases bif_some h with ⟨c1, h⟩ | ⟨c2, h⟩
    · refine TS.cond x ?_ (fun e => ?_) (fun e => by rw [c1] at e; cases e)
      · kernel_rfl
      refine TS.seq ?_
      have hq : (True) ∧ ((True) ∧ (True)) := ⟨trivial, ⟨trivial, trivial⟩⟩
      refine TS.reg [] ?_ ?_
      · apply prop_of ?_ hq
        kernel_rfl
      refine XS.then ?_
      refine TS.ret ?_
      refine XS.passR ?_
      obtain rfl : b_Slots = r := Option.some.inj h
      exact XS.fin [] ((True) ∧ (True)) (by kernel_rfl) ⟨trivial, trivial⟩
    · refine TS.cond x ?_ (fun e => by rw [c2] at e; cases e) (fun e => ?_)
      · kernel_rfl
      refine TS.skip ?_
      refine XS.then ?_
      refine TS.seq ?_
      refine TS.seq ?_
      obtain ⟨t3, h⟩ := test_some h
      obtain ⟨t4, h⟩ := test_some h
      have hq : (True) ∧ ((True) ∧ ((True) ∧ ((inR slot 9) ∧ ((True) ∧ ((inR vend 32) ∧ ((True) ∧ (True))))))) := ⟨trivial, ⟨trivial, ⟨trivial, ⟨inb_ok t3, ⟨trivial, ⟨inb_ok t4, ⟨trivial, trivial⟩⟩⟩⟩⟩⟩⟩
      refine TS.reg [] ?_ ?_
      · apply prop_of ?_ hq
        kernel_rfl
      refine XS.then ?_
      refine TS.seq ?_
      have hq : (True) ∧ ((True) ∧ ((slot.toNat < 9 ∧ (vend.toNat < 32 ∧ (True))) ∧ ((True) ∧ (True)))) := ⟨trivial, ⟨trivial, ⟨⟨inR_lt (inb_ok t3), ⟨inR_lt (inb_ok t4), trivial⟩⟩, ⟨trivial, trivial⟩⟩⟩⟩
      refine TS.reg [] ?_ ?_
      · apply prop_of ?_ hq
        kernel_rfl
      refine XS.then ?_
      rcases bif_some h with ⟨c5, h⟩ | ⟨c6, h⟩
      · refine TS.cond ((((b_Slots.getD slot.toNat ((0 : Int), ((0 : Int), ((List.replicate 32 (0 : Int)), (List.replicate 32 (0 : Int)))))).2.2.1).getD vend.toNat (0 : Int)) == (1 : Int)) ?_ (fun e => ?_) (fun e => by rw [c5] at e; cases e)
        · kernel_rfl
        have hq : (True) ∧ ((True) ∧ ((slot.toNat < 9 ∧ (vend.toNat < 32 ∧ (True))) ∧ (True))) := ⟨trivial, ⟨trivial, ⟨⟨inR_lt (inb_ok t3), ⟨inR_lt (inb_ok t4), trivial⟩⟩, trivial⟩⟩⟩
        refine TS.reg [] ?_ ?_
        · apply prop_of ?_ hq
          kernel_rfl
        refine XS.then ?_
        refine TS.seq ?_
        have hq : (True) ∧ ((True) ∧ (True)) := ⟨trivial, ⟨trivial, trivial⟩⟩
        refine TS.reg [] ?_ ?_
        · apply prop_of ?_ hq
          kernel_rfl
        refine XS.then ?_
        refine TS.ret ?_
        obtain rfl : (b_Slots.set slot.toNat ((b_Slots.getD slot.toNat ((0 : Int), ((0 : Int), ((List.replicate 32 (0 : Int)), (List.replicate 32 (0 : Int)))))).1, ((b_Slots.getD slot.toNat ((0 : Int), ((0 : Int), ((List.replicate 32 (0 : Int)), (List.replicate 32 (0 : Int)))))).2.1, ((((b_Slots.getD slot.toNat ((0 : Int), ((0 : Int), ((List.replicate 32 (0 : Int)), (List.replicate 32 (0 : Int)))))).2.2.1).set vend.toNat (2 : Int)), (b_Slots.getD slot.toNat ((0 : Int), ((0 : Int), ((List.replicate 32 (0 : Int)), (List.replicate 32 (0 : Int)))))).2.2.2)))) = r := Option.some.inj h
        exact XS.fin [] ((True) ∧ (True)) (by kernel_rfl) ⟨trivial, trivial⟩
      · refine TS.cond ((((b_Slots.getD slot.toNat ((0 : Int), ((0 : Int), ((List.replicate 32 (0 : Int)), (List.replicate 32 (0 : Int)))))).2.2.1).getD vend.toNat (0 : Int)) == (1 : Int)) ?_ (fun e => by rw [c6] at e; cases e) (fun e => ?_)
        · kernel_rfl
        refine TS.skip ?_
        refine XS.then ?_
        refine TS.seq ?_
        have hq : (True) ∧ ((True) ∧ (True)) := ⟨trivial, ⟨trivial, trivial⟩⟩
        refine TS.reg [] ?_ ?_
        · apply prop_of ?_ hq
          kernel_rfl
        refine XS.then ?_
        refine TS.ret ?_
        obtain rfl : b_Slots = r := Option.some.inj h
        exact XS.fin [] ((True) ∧ (True)) (by kernel_rfl) ⟨trivial, trivial⟩
  · obtain ⟨y_2, hx7, h⟩ := bind_some' h
    rcases bif_some h with ⟨c8, h⟩ | ⟨c9, h⟩
    · have hq : (True) ∧ ((PureC Try.prog 66 [(.st (.arr 9 (.st (.pair (.int .i64) (.pair (.int .i64) (.pair (.arr 32 (.int .i64)) (.arr 32 (.int .i64)))))) b_Slots))] (.int .i64 y_2) []) ∧ ((True) ∧ (((True) ∧ (y_2 != (0 : Int)) = true) ∧ ((True) ∧ ((True) ∧ ((True) ∧ ((True) ∧ ((True) ∧ ((True) ∧ ((True) ∧ (True))))))))))) := ⟨trivial, ⟨F66_ok n b_Slots y_2 hx7, ⟨trivial, ⟨⟨trivial, c8⟩, ⟨trivial, ⟨trivial, ⟨trivial, ⟨trivial, ⟨trivial, ⟨trivial, ⟨trivial, trivial⟩⟩⟩⟩⟩⟩⟩⟩⟩⟩⟩
      refine TS.reg [.none, (.call (.int .i64 y_2) []), .none, .dec true] ?_ ?_
      · apply prop_of ?_ hq
        kernel_rfl
      refine XS.reAny [0, 1] (mkMask 41 [1, 2, 3, 6, 26]) true h ?_
      kernel_rfl
    · rcases bif_some h with ⟨c10, h⟩ | ⟨c11, h⟩
      · have hq : (True) ∧ ((PureC Try.prog 66 [(.st (.arr 9 (.st (.pair (.int .i64) (.pair (.int .i64) (.pair (.arr 32 (.int .i64)) (.arr 32 (.int .i64)))))) b_Slots))] (.int .i64 y_2) []) ∧ ((True) ∧ (((True) ∧ (y_2 != (0 : Int)) = false) ∧ ((True) ∧ ((True) ∧ ((True) ∧ (((True) ∧ (decide (slot < (1 : Int))) = true) ∧ ((True) ∧ ((True) ∧ ((True) ∧ ((True) ∧ ((True) ∧ (True))))))))))))) := ⟨trivial, ⟨F66_ok n b_Slots y_2 hx7, ⟨trivial, ⟨⟨trivial, c9⟩, ⟨trivial, ⟨trivial, ⟨trivial, ⟨⟨trivial, c10⟩, ⟨trivial, ⟨trivial, ⟨trivial, ⟨trivial, ⟨trivial, trivial⟩⟩⟩⟩⟩⟩⟩⟩⟩⟩⟩⟩⟩
        refine TS.reg [.none, (.call (.int .i64 y_2) []), .none, .dec false, .none, .none, .none, .dec true] ?_ ?_
        · apply prop_of ?_ hq
          kernel_rfl
        refine XS.reAny [0, 1] (mkMask 41 [1, 2, 3, 6, 26]) true h ?_
        kernel_rfl
      · rcases bif_some h with ⟨c12, h⟩ | ⟨c13, h⟩
        · have hq : (True) ∧ ((PureC Try.prog 66 [(.st (.arr 9 (.st (.pair (.int .i64) (.pair (.int .i64) (.pair (.arr 32 (.int .i64)) (.arr 32 (.int .i64)))))) b_Slots))] (.int .i64 y_2) []) ∧ ((True) ∧ (((True) ∧ (y_2 != (0 : Int)) = false) ∧ ((True) ∧ ((True) ∧ ((True) ∧ (((True) ∧ (decide (slot < (1 : Int))) = false) ∧ ((True) ∧ ((True) ∧ ((True) ∧ (((True) ∧ (decide (slot > (8 : Int))) = true) ∧ ((True) ∧ ((True) ∧ ((True) ∧ (True))))))))))))))) := ⟨trivial, ⟨F66_ok n b_Slots y_2 hx7, ⟨trivial, ⟨⟨trivial, c9⟩, ⟨trivial, ⟨trivial, ⟨trivial, ⟨⟨trivial, c11⟩, ⟨trivial, ⟨trivial, ⟨trivial, ⟨⟨trivial, c12⟩, ⟨trivial, ⟨trivial, ⟨trivial, trivial⟩⟩⟩⟩⟩⟩⟩⟩⟩⟩⟩⟩⟩⟩⟩
          refine TS.reg [.none, (.call (.int .i64 y_2) []), .none, .dec false, .none, .none, .none, .dec false, .none, .none, .none, .dec true] ?_ ?_
          · apply prop_of ?_ hq
            kernel_rfl
          refine XS.reAny [0, 1] (mkMask 41 [1, 2, 3, 6, 26]) true h ?_
          kernel_rfl
        · rcases bif_some h with ⟨c14, h⟩ | ⟨c15, h⟩
          · have hq : (True) ∧ ((PureC Try.prog 66 [(.st (.arr 9 (.st (.pair (.int .i64) (.pair (.int .i64) (.pair (.arr 32 (.int .i64)) (.arr 32 (.int .i64)))))) b_Slots))] (.int .i64 y_2) []) ∧ ((True) ∧ (((True) ∧ (y_2 != (0 : Int)) = false) ∧ ((True) ∧ ((True) ∧ ((True) ∧ (((True) ∧ (decide (slot < (1 : Int))) = false) ∧ ((True) ∧ ((True) ∧ ((True) ∧ (((True) ∧ (decide (slot > (8 : Int))) = false) ∧ ((True) ∧ ((True) ∧ ((True) ∧ (((True) ∧ (decide (vend < (1 : Int))) = true) ∧ ((True) ∧ (True))))))))))))))))) := ⟨trivial, ⟨F66_ok n b_Slots y_2 hx7, ⟨trivial, ⟨⟨trivial, c9⟩, ⟨trivial, ⟨trivial, ⟨trivial, ⟨⟨trivial, c11⟩, ⟨trivial, ⟨trivial, ⟨trivial, ⟨⟨trivial, c13⟩, ⟨trivial, ⟨trivial, ⟨trivial, ⟨⟨trivial, c14⟩, ⟨trivial, trivial⟩⟩⟩⟩⟩⟩⟩⟩⟩⟩⟩⟩⟩⟩⟩⟩⟩
            refine TS.reg [.none, (.call (.int .i64 y_2) []), .none, .dec false, .none, .none, .none, .dec false, .none, .none, .none, .dec false, .none, .none, .none, .dec true] ?_ ?_
            · apply prop_of ?_ hq
              kernel_rfl
            refine XS.reAny [0, 1] (mkMask 41 [1, 2, 3, 6, 26]) true h ?_
            kernel_rfl
          · have hq : (True) ∧ ((PureC Try.prog 66 [(.st (.arr 9 (.st (.pair (.int .i64) (.pair (.int .i64) (.pair (.arr 32 (.int .i64)) (.arr 32 (.int .i64)))))) b_Slots))] (.int .i64 y_2) []) ∧ ((True) ∧ (((True) ∧ (y_2 != (0 : Int)) = false) ∧ ((True) ∧ ((True) ∧ ((True) ∧ (((True) ∧ (decide (slot < (1 : Int))) = false) ∧ ((True) ∧ ((True) ∧ ((True) ∧ (((True) ∧ (decide (slot > (8 : Int))) = false) ∧ ((True) ∧ ((True) ∧ ((True) ∧ (((True) ∧ (decide (vend < (1 : Int))) = false) ∧ ((True) ∧ ((True) ∧ ((True) ∧ (True))))))))))))))))))) := ⟨trivial, ⟨F66_ok n b_Slots y_2 hx7, ⟨trivial, ⟨⟨trivial, c9⟩, ⟨trivial, ⟨trivial, ⟨trivial, ⟨⟨trivial, c11⟩, ⟨trivial, ⟨trivial, ⟨trivial, ⟨⟨trivial, c13⟩, ⟨trivial, ⟨trivial, ⟨trivial, ⟨⟨trivial, c15⟩, ⟨trivial, ⟨trivial, ⟨trivial, trivial⟩⟩⟩⟩⟩⟩⟩⟩⟩⟩⟩⟩⟩⟩⟩⟩⟩⟩⟩
            refine TS.reg [.none, (.call (.int .i64 y_2) []), .none, .dec false, .none, .none, .none, .dec false, .none, .none, .none, .dec false, .none, .none, .none, .dec false] ?_ ?_
            · apply prop_of ?_ hq
              kernel_rfl
            refine XS.reAny [0, 1] (mkMask 41 [1, 2, 3, 6, 26]) (decide (vend > (31 : Int))) h ?_
            kernel_rfl

/-! plugtree/pluglaw.SlotsHalt -/
def F3_j4 (n : Nat) (b_Slots : List (Int × Int × (List Int) × List Int)) (slot : Int) (vend : Int) : (List (Int × Int × (List Int) × List Int)) → Option Bool
  | m1 => ((F17 n b_Slots slot vend).bind fun y_2 => (some (Sh.beq (.st (.arr 9 (.st (.pair (.int .i64) (.pair (.int .i64) (.pair (.arr 32 (.int .i64)) (.arr 32 (.int .i64)))))))) y_2 m1)))
def F3_j3 (n : Nat) (b_Slots : List (Int × Int × (List Int) × List Int)) (slot : Int) (vend : Int) : Bool → Option Bool
  | x => (bif x then (bif inb slot 9 then (bif inb vend 32 then (F3_j4 n b_Slots slot vend (b_Slots.set slot.toNat ((b_Slots.getD slot.toNat ((0 : Int), ((0 : Int), ((List.replicate 32 (0 : Int)), (List.replicate 32 (0 : Int)))))).1, ((b_Slots.getD slot.toNat ((0 : Int), ((0 : Int), ((List.replicate 32 (0 : Int)), (List.replicate 32 (0 : Int)))))).2.1, ((((b_Slots.getD slot.toNat ((0 : Int), ((0 : Int), ((List.replicate 32 (0 : Int)), (List.replicate 32 (0 : Int)))))).2.2.1).set vend.toNat (2 : Int)), (b_Slots.getD slot.toNat ((0 : Int), ((0 : Int), ((List.replicate 32 (0 : Int)), (List.replicate 32 (0 : Int)))))).2.2.2))))) else none) else none) else (F3_j4 n b_Slots slot vend b_Slots))
def F3 (n : Nat) (b_Slots : List (Int × Int × (List Int) × List Int)) (slot : Int) (vend : Int) : Option Bool := ((F15 n b_Slots).bind fun y_3 => (bif (y_3 == (0 : Int)) then ((F16 n slot (1 : Int) (8 : Int)).bind fun y_4 => (bif y_4 then ((F16 n vend (1 : Int) (31 : Int)).bind fun y_5 => (bif y_5 then (bif inb slot 9 then (bif inb vend 32 then (F3_j3 n b_Slots slot vend ((((b_Slots.getD slot.toNat ((0 : Int), ((0 : Int), ((List.replicate 32 (0 : Int)), (List.replicate 32 (0 : Int)))))).2.2.1).getD vend.toNat (0 : Int)) == (1 : Int))) else none) else none) else (F3_j3 n b_Slots slot vend false))) else (F3_j3 n b_Slots slot vend false))) else (F3_j3 n b_Slots slot vend false)))
theorem F3_ok (n : Nat) (b_Slots : List (Int × Int × (List Int) × List Int)) (slot : Int) (vend : Int) (r : Bool) (h : F3 n b_Slots slot vend = some r) : PureC Try.prog 3 [(.st (.arr 9 (.st (.pair (.int .i64) (.pair (.int .i64) (.pair (.arr 32 (.int .i64)) (.arr 32 (.int .i64)))))) b_Slots)), (.int .i64 slot), (.int .i64 vend)] (.bool r) [] := by
  refine PureC.mkS Try.func3 rfl rfl ?_
  intro w0 fz0 hfz
  replace h : ((F15 n b_Slots).bind fun y_3 => (bif (y_3 == (0 : Int)) then ((F16 n slot (1 : Int) (8 : Int)).bind fun y_4 => (bif y_4 then ((F16 n vend (1 : Int) (31 : Int)).bind fun y_5 => (bif y_5 then (bif inb slot 9 then (bif inb vend 32 then (F3_j3 n b_Slots slot vend ((((b_Slots.getD slot.toNat ((0 : Int), ((0 : Int), ((List.replicate 32 (0 : Int)), (List.replicate 32 (0 : Int)))))).2.2.1).getD vend.toNat (0 : Int)) == (1 : Int))) else none) else none) else (F3_j3 n b_Slots slot vend false))) else (F3_j3 n b_Slots slot vend false))) else (F3_j3 n b_Slots slot vend false))) = some r := h
  refine TS.seq ?_
  have hq : (True) ∧ ((True) ∧ (True)) := ⟨trivial, ⟨trivial, trivial⟩⟩
  refine TS.reg [] ?_ ?_
  · apply prop_of ?_ hq
    kernel_rfl
  refine XS.then ?_
  refine TS.seq ?_
  have hq : (True) ∧ ((True) ∧ ((True) ∧ (True))) := ⟨trivial, ⟨trivial, ⟨trivial, trivial⟩⟩⟩
  refine TS.reg [] ?_ ?_
  · apply prop_of ?_ hq
    kernel_rfl
  refine XS.then ?_
  refine TS.seq ?_
  refine TS.seq ?_
  refine TS.cut (D := Bool) (fun d => match d with | x => (mkTs 42 [(1, (.int .i64 slot)), (2, (.int .i64 vend)), (3, (.ptr 0 [])), (7, (.ptr 1 [])), (29, (.bool x))], [(.box 27 (.st (.arr 9 (.st (.pair (.int .i64) (.pair (.int .i64) (.pair (.arr 32 (.int .i64)) (.arr 32 (.int .i64)))))) b_Slots))), (.box 27 (.st (.arr 9 (.st (.pair (.int .i64) (.pair (.int .i64) (.pair (.arr 32 (.int .i64)) (.arr 32 (.int .i64)))))) b_Slots)))])) (fun d => F3_j3 n b_Slots slot vend d = some r) ?_ ?_
  · rintro x h
    replace h : (bif x then (bif inb slot 9 then (bif inb vend 32 then (F3_j4 n b_Slots slot vend (b_Slots.set slot.toNat ((b_Slots.getD slot.toNat ((0 : Int), ((0 : Int), ((List.replicate 32 (0 : Int)), (List.replicate 32 (0 : Int)))))).1, ((b_Slots.getD slot.toNat ((0 : Int), ((0 : Int), ((List.replicate 32 (0 : Int)), (List.replicate 32 (0 : Int)))))).2.1, ((((b_Slots.getD slot.toNat ((0 : Int), ((0 : Int), ((List.replicate 32 (0 : Int)), (List.replicate 32 (0 : Int)))))).2.2.1).set vend.toNat (2 : Int)), (b_Slots.getD slot.toNat ((0 : Int), ((0 : Int), ((List.replicate 32 (0 : Int)), (List.replicate 32 (0 : Int)))))).2.2.2))))) else none) else none) else (F3_j4 n b_Slots slot vend b_Slots)) = some r := h
    refine XS.then ?_
    refine TS.cut (D := List (Int × Int × (List Int) × List Int)) (fun d => match d with | m1 => (mkTs 42 [(1, (.int .i64 slot)), (2, (.int .i64 vend)), (3, (.ptr 0 [])), (7, (.ptr 1 []))], [(.box 27 (.st (.arr 9 (.st (.pair (.int .i64) (.pair (.int .i64) (.pair (.arr 32 (.int .i64)) (.arr 32 (.int .i64)))))) b_Slots))), (.box 27 (.st (.arr 9 (.st (.pair (.int .i64) (.pair (.int .i64) (.pair (.arr 32 (.int .i64)) (.arr 32 (.int .i64)))))) m1)))])) (fun d => F3_j4 n b_Slots slot vend d = some r) ?_ ?_
    · rintro m1 h
      replace h : ((F17 n b_Slots slot vend).bind fun y_2 => (some (Sh.beq (.st (.arr 9 (.st (.pair (.int .i64) (.pair (.int .i64) (.pair (.arr 32 (.int .i64)) (.arr 32 (.int .i64)))))))) y_2 m1))) = some r := h
      refine XS.then ?_
      refine TS.seq ?_
      obtain ⟨y_2, hx1, h⟩ := bind_some' h
      have hq : ((True) ∧ ((True) ∧ ((True) ∧ ((PureC Try.prog 17 [(.st (.arr 9 (.st (.pair (.int .i64) (.pair (.int .i64) (.pair (.arr 32 (.int .i64)) (.arr 32 (.int .i64)))))) b_Slots)), (.int .i64 slot), (.int .i64 vend)] (.st (.arr 9 (.st (.pair (.int .i64) (.pair (.int .i64) (.pair (.arr 32 (.int .i64)) (.arr 32 (.int .i64)))))) y_2)) []) ∧ ((True) ∧ ((True) ∧ (True))))))) ∧ ((True) ∧ (True)) := ⟨⟨trivial, ⟨trivial, ⟨trivial, ⟨F17_ok n b_Slots slot vend y_2 hx1, ⟨trivial, ⟨trivial, trivial⟩⟩⟩⟩⟩⟩, ⟨trivial, trivial⟩⟩
      refine TS.draw 6 [] [.none, .none, .none, (.call (.st (.arr 9 (.st (.pair (.int .i64) (.pair (.int .i64) (.pair (.arr 32 (.int .i64)) (.arr 32 (.int .i64)))))) y_2)) [])] (by kernel_rfl) ?_ ?_
      · apply prop_of ?_ hq
        kernel_rfl
      refine XS.then ?_
      refine TS.ret ?_
      obtain rfl : (Sh.beq (.st (.arr 9 (.st (.pair (.int .i64) (.pair (.int .i64) (.pair (.arr 32 (.int .i64)) (.arr 32 (.int .i64)))))))) y_2 m1) = r := Option.some.inj h
      exact XS.fin [] ((True) ∧ (True)) (by kernel_rfl) ⟨trivial, trivial⟩
    · rcases bif_some h with ⟨c2, h⟩ | ⟨c3, h⟩
      · refine TS.cond x ?_ (fun e => ?_) (fun e => by rw [c2] at e; cases e)
        · kernel_rfl
        obtain ⟨t4, h⟩ := test_some h
        obtain ⟨t5, h⟩ := test_some h
        have hq : (True) ∧ ((True) ∧ ((True) ∧ ((inR slot 9) ∧ ((True) ∧ ((inR vend 32) ∧ ((slot.toNat < 9 ∧ (vend.toNat < 32 ∧ (True))) ∧ (True))))))) := ⟨trivial, ⟨trivial, ⟨trivial, ⟨inb_ok t4, ⟨trivial, ⟨inb_ok t5, ⟨⟨inR_lt (inb_ok t4), ⟨inR_lt (inb_ok t5), trivial⟩⟩, trivial⟩⟩⟩⟩⟩⟩⟩
        refine TS.reg [] ?_ ?_
        · apply prop_of ?_ hq
          kernel_rfl
        refine XS.reAny [0, 1] (mkMask 42 [1, 2, 3, 7]) (b_Slots.set slot.toNat ((b_Slots.getD slot.toNat ((0 : Int), ((0 : Int), ((List.replicate 32 (0 : Int)), (List.replicate 32 (0 : Int)))))).1, ((b_Slots.getD slot.toNat ((0 : Int), ((0 : Int), ((List.replicate 32 (0 : Int)), (List.replicate 32 (0 : Int)))))).2.1, ((((b_Slots.getD slot.toNat ((0 : Int), ((0 : Int), ((List.replicate 32 (0 : Int)), (List.replicate 32 (0 : Int)))))).2.2.1).set vend.toNat (2 : Int)), (b_Slots.getD slot.toNat ((0 : Int), ((0 : Int), ((List.replicate 32 (0 : Int)), (List.replicate 32 (0 : Int)))))).2.2.2)))) h ?_
        kernel_rfl
      · refine TS.cond x ?_ (fun e => by rw [c3] at e; cases e) (fun e => ?_)
        · kernel_rfl
        refine TS.skip ?_
        refine XS.reAny [0, 1] (mkMask 42 [1, 2, 3, 7]) b_Slots h ?_
        kernel_rfl
  · obtain ⟨y_3, hx6, h⟩ := bind_some' h
    rcases bif_some h with ⟨c7, h⟩ | ⟨c8, h⟩
    · obtain ⟨y_4, hx9, h⟩ := bind_some' h
      rcases bif_some h with ⟨c10, h⟩ | ⟨c11, h⟩
      · obtain ⟨y_5, hx12, h⟩ := bind_some' h
        rcases bif_some h with ⟨c13, h⟩ | ⟨c14, h⟩
        · obtain ⟨t15, h⟩ := test_some h
          obtain ⟨t16, h⟩ := test_some h
          have hq : (True) ∧ ((PureC Try.prog 15 [(.st (.arr 9 (.st (.pair (.int .i64) (.pair (.int .i64) (.pair (.arr 32 (.int .i64)) (.arr 32 (.int .i64)))))) b_Slots))] (.int .i64 y_3) []) ∧ ((True) ∧ (((True) ∧ (y_3 == (0 : Int)) = true) ∧ ((True) ∧ ((PureC Try.prog 16 [(.int .i64 slot), (.int .i64 (1 : Int)), (.int .i64 (8 : Int))] (.bool y_4) []) ∧ ((True) ∧ (((True) ∧ y_4 = true) ∧ ((True) ∧ ((PureC Try.prog 16 [(.int .i64 vend), (.int .i64 (1 : Int)), (.int .i64 (31 : Int))] (.bool y_5) []) ∧ ((True) ∧ (((True) ∧ y_5 = true) ∧ ((True) ∧ ((True) ∧ ((True) ∧ ((inR slot 9) ∧ ((True) ∧ ((inR vend 32) ∧ ((slot.toNat < 9 ∧ (vend.toNat < 32 ∧ (True))) ∧ ((True) ∧ ((True) ∧ (True))))))))))))))))))))) := ⟨trivial, ⟨F15_ok n b_Slots y_3 hx6, ⟨trivial, ⟨⟨trivial, c7⟩, ⟨trivial, ⟨F16_ok n slot (1 : Int) (8 : Int) y_4 hx9, ⟨trivial, ⟨⟨trivial, c10⟩, ⟨trivial, ⟨F16_ok n vend (1 : Int) (31 : Int) y_5 hx12, ⟨trivial, ⟨⟨trivial, c13⟩, ⟨trivial, ⟨trivial, ⟨trivial, ⟨inb_ok t15, ⟨trivial, ⟨inb_ok t16, ⟨⟨inR_lt (inb_ok t15), ⟨inR_lt (inb_ok t16), trivial⟩⟩, ⟨trivial, ⟨trivial, trivial⟩⟩⟩⟩⟩⟩⟩⟩⟩⟩⟩⟩⟩⟩⟩⟩⟩⟩⟩⟩⟩
          refine TS.reg [.none, (.call (.int .i64 y_3) []), .none, .dec true, .none, (.call (.bool y_4) []), .none, .dec true, .none, (.call (.bool y_5) []), .none, .dec true] ?_ ?_
          · apply prop_of ?_ hq
            kernel_rfl
          refine XS.reAny [0, 1] (mkMask 42 [1, 2, 3, 7, 29]) ((((b_Slots.getD slot.toNat ((0 : Int), ((0 : Int), ((List.replicate 32 (0 : Int)), (List.replicate 32 (0 : Int)))))).2.2.1).getD vend.toNat (0 : Int)) == (1 : Int)) h ?_
          kernel_rfl
        · have hq : (True) ∧ ((PureC Try.prog 15 [(.st (.arr 9 (.st (.pair (.int .i64) (.pair (.int .i64) (.pair (.arr 32 (.int .i64)) (.arr 32 (.int .i64)))))) b_Slots))] (.int .i64 y_3) []) ∧ ((True) ∧ (((True) ∧ (y_3 == (0 : Int)) = true) ∧ ((True) ∧ ((PureC Try.prog 16 [(.int .i64 slot), (.int .i64 (1 : Int)), (.int .i64 (8 : Int))] (.bool y_4) []) ∧ ((True) ∧ (((True) ∧ y_4 = true) ∧ ((True) ∧ ((PureC Try.prog 16 [(.int .i64 vend), (.int .i64 (1 : Int)), (.int .i64 (31 : Int))] (.bool y_5) []) ∧ ((True) ∧ (((True) ∧ y_5 = false) ∧ ((True) ∧ (True))))))))))))) := ⟨trivial, ⟨F15_ok n b_Slots y_3 hx6, ⟨trivial, ⟨⟨trivial, c7⟩, ⟨trivial, ⟨F16_ok n slot (1 : Int) (8 : Int) y_4 hx9, ⟨trivial, ⟨⟨trivial, c10⟩, ⟨trivial, ⟨F16_ok n vend (1 : Int) (31 : Int) y_5 hx12, ⟨trivial, ⟨⟨trivial, c14⟩, ⟨trivial, trivial⟩⟩⟩⟩⟩⟩⟩⟩⟩⟩⟩⟩⟩
          refine TS.reg [.none, (.call (.int .i64 y_3) []), .none, .dec true, .none, (.call (.bool y_4) []), .none, .dec true, .none, (.call (.bool y_5) []), .none, .dec false] ?_ ?_
          · apply prop_of ?_ hq
            kernel_rfl
          refine XS.reAny [0, 1] (mkMask 42 [1, 2, 3, 7, 29]) false h ?_
          kernel_rfl
      · have hq : (True) ∧ ((PureC Try.prog 15 [(.st (.arr 9 (.st (.pair (.int .i64) (.pair (.int .i64) (.pair (.arr 32 (.int .i64)) (.arr 32 (.int .i64)))))) b_Slots))] (.int .i64 y_3) []) ∧ ((True) ∧ (((True) ∧ (y_3 == (0 : Int)) = true) ∧ ((True) ∧ ((PureC Try.prog 16 [(.int .i64 slot), (.int .i64 (1 : Int)), (.int .i64 (8 : Int))] (.bool y_4) []) ∧ ((True) ∧ (((True) ∧ y_4 = false) ∧ ((True) ∧ ((True) ∧ ((True) ∧ (True))))))))))) := ⟨trivial, ⟨F15_ok n b_Slots y_3 hx6, ⟨trivial, ⟨⟨trivial, c7⟩, ⟨trivial, ⟨F16_ok n slot (1 : Int) (8 : Int) y_4 hx9, ⟨trivial, ⟨⟨trivial, c11⟩, ⟨trivial, ⟨trivial, ⟨trivial, trivial⟩⟩⟩⟩⟩⟩⟩⟩⟩⟩⟩
        refine TS.reg [.none, (.call (.int .i64 y_3) []), .none, .dec true, .none, (.call (.bool y_4) []), .none, .dec false] ?_ ?_
        · apply prop_of ?_ hq
          kernel_rfl
        refine XS.reAny [0, 1] (mkMask 42 [1, 2, 3, 7, 29]) false h ?_
        kernel_rfl
    · have hq : (True) ∧ ((PureC Try.prog 15 [(.st (.arr 9 (.st (.pair (.int .i64) (.pair (.int .i64) (.pair (.arr 32 (.int .i64)) (.arr 32 (.int .i64)))))) b_Slots))] (.int .i64 y_3) []) ∧ ((True) ∧ (((True) ∧ (y_3 == (0 : Int)) = false) ∧ ((True) ∧ ((True) ∧ ((True) ∧ ((True) ∧ ((True) ∧ (True))))))))) := ⟨trivial, ⟨F15_ok n b_Slots y_3 hx6, ⟨trivial, ⟨⟨trivial, c8⟩, ⟨trivial, ⟨trivial, ⟨trivial, ⟨trivial, ⟨trivial, trivial⟩⟩⟩⟩⟩⟩⟩⟩⟩
      refine TS.reg [.none, (.call (.int .i64 y_3) []), .none, .dec false] ?_ ?_
      · apply prop_of ?_ hq
        kernel_rfl
      refine XS.reAny [0, 1] (mkMask 42 [1, 2, 3, 7, 29]) false h ?_
      kernel_rfl
end Go.Proofs.Ytgcdohclbkmmdaa
