/- Functions of the program, as functions of values. -/
import Derived.Test.YtkhfbleldchnpaaAm27
import Derived.Test.YtkhfbleldchnpaaChecked
namespace Go.Proofs.Ytkhfbleldchnpaa
open Go Go.RowKit
set_option linter.unusedVariables false
set_option maxRecDepth 100000

/-! plugtree/ring.New -/
def F44 (n : Nat) (cells : Int) : Option (Int × Int × Int × Int × Int × Int × (List (Int × Int × Bool))) := (bif (decide (cells < (3 : Int))) then (some ((0 : Int), (0 : Int), (0 : Int), (0 : Int), (0 : Int), (1 : Int), ([] : List (Int × Int × Bool)))) else (bif (decide (cells > (64 : Int))) then (some ((0 : Int), (0 : Int), (0 : Int), (0 : Int), (0 : Int), (1 : Int), ([] : List (Int × Int × Bool)))) else (bif (decide (0 ≤ cells ∧ cells ≤ 17179869184)) then (bif inb (IntKind.wrap .i64 (cells - (1 : Int))) ((List.replicate cells.toNat ((0 : Int), ((0 : Int), false))).length) then (some ((0 : Int), (1 : Int), (0 : Int), (1 : Int), (0 : Int), (0 : Int), ((List.replicate cells.toNat ((0 : Int), ((0 : Int), false))).set ((IntKind.wrap .i64 (cells - (1 : Int))).toNat) (((List.replicate cells.toNat ((0 : Int), ((0 : Int), false))).getD ((IntKind.wrap .i64 (cells - (1 : Int))).toNat) ((0 : Int), ((0 : Int), false))).1, (((List.replicate cells.toNat ((0 : Int), ((0 : Int), false))).getD ((IntKind.wrap .i64 (cells - (1 : Int))).toNat) ((0 : Int), ((0 : Int), false))).2.1, true))))) else none) else none)))
theorem F44_ok (n : Nat) (cells : Int) (r : Int × Int × Int × Int × Int × Int × (List (Int × Int × Bool))) (h : F44 n cells = some r) : PureC Try.prog 44 [(.int .i64 cells)] (.tup (.cons (.st (.cons (.row 0) (.cons (.st (.cons (.int .i64 r.1) (.int .i64 r.2.1))) (.cons (.st (.cons (.int .i64 r.2.2.1) (.int .i64 r.2.2.2.1))) (.int .i64 r.2.2.2.2.1))))) (.cons (.int .i64 r.2.2.2.2.2.1) .nil))) [(.row 75 (.st (.pair (.int .u64) (.pair (.int .i64) .bool))) r.2.2.2.2.2.2)] := by
  refine PureC.mkS Try.func44 rfl rfl ?_
  intro w0 fz0 hfz
  replace h : (bif (decide (cells < (3 : Int))) then (some ((0 : Int), (0 : Int), (0 : Int), (0 : Int), (0 : Int), (1 : Int), ([] : List (Int × Int × Bool)))) else (bif (decide (cells > (64 : Int))) then (some ((0 : Int), (0 : Int), (0 : Int), (0 : Int), (0 : Int), (1 : Int), ([] : List (Int × Int × Bool)))) else (bif (decide (0 ≤ cells ∧ cells ≤ 17179869184)) then (bif inb (IntKind.wrap .i64 (cells - (1 : Int))) ((List.replicate cells.toNat ((0 : Int), ((0 : Int), false))).length) then (some ((0 : Int), (1 : Int), (0 : Int), (1 : Int), (0 : Int), (0 : Int), ((List.replicate cells.toNat ((0 : Int), ((0 : Int), false))).set ((IntKind.wrap .i64 (cells - (1 : Int))).toNat) (((List.replicate cells.toNat ((0 : Int), ((0 : Int), false))).getD ((IntKind.wrap .i64 (cells - (1 : Int))).toNat) ((0 : Int), ((0 : Int), false))).1, (((List.replicate cells.toNat ((0 : Int), ((0 : Int), false))).getD ((IntKind.wrap .i64 (cells - (1 : Int))).toNat) ((0 : Int), ((0 : Int), false))).2.1, true))))) else none) else none))) = some r := h
  refine TS.seq ?_
  have hq : (True) ∧ ((True) ∧ (True)) := ⟨trivial, ⟨trivial, trivial⟩⟩
  refine TS.reg [] ?_ ?_
  · apply prop_of ?_ hq
    kernel_rfl
  refine XS.then ?_
  refine TS.seq ?_
  refine TS.seq ?_
  rcases bif_some h with ⟨c1, h⟩ | ⟨c2, h⟩
  · have hq : (True) ∧ ((True) ∧ (((True) ∧ (decide (cells < (3 : Int))) = true) ∧ ((True) ∧ (True)))) := ⟨trivial, ⟨trivial, ⟨⟨trivial, c1⟩, ⟨trivial, trivial⟩⟩⟩⟩
    refine TS.reg [.none, .none, .dec true] ?_ ?_
    · apply prop_of ?_ hq
      kernel_rfl
    refine XS.then ?_
    refine TS.yes ?_ ?_
    · kernel_rfl
    refine TS.seq ?_
    have hq : (True) ∧ ((True) ∧ ((True) ∧ (True))) := ⟨trivial, ⟨trivial, ⟨trivial, trivial⟩⟩⟩
    refine TS.reg [] ?_ ?_
    · apply prop_of ?_ hq
      kernel_rfl
    refine XS.then ?_
    refine TS.ret ?_
    refine XS.passR ?_
    obtain rfl : ((0 : Int), (0 : Int), (0 : Int), (0 : Int), (0 : Int), (1 : Int), ([] : List (Int × Int × Bool))) = r := Option.some.inj h
    refine XS.wk (.row true 0 [false] 75 (.st (.pair (.int .u64) (.pair (.int .i64) .bool)))) ?_
    exact XS.fin [1] ((True) ∧ ((True) ∧ (True))) (by kernel_rfl) ⟨trivial, ⟨trivial, trivial⟩⟩
  · have hq : (True) ∧ ((True) ∧ (((True) ∧ (decide (cells < (3 : Int))) = false) ∧ ((True) ∧ ((True) ∧ ((True) ∧ (True)))))) := ⟨trivial, ⟨trivial, ⟨⟨trivial, c2⟩, ⟨trivial, ⟨trivial, ⟨trivial, trivial⟩⟩⟩⟩⟩⟩
    refine TS.reg [.none, .none, .dec false] ?_ ?_
    · apply prop_of ?_ hq
      kernel_rfl
    refine XS.then ?_
    rcases bif_some h with ⟨c3, h⟩ | ⟨c4, h⟩
    · refine TS.cond (decide (cells > (64 : Int))) ?_ (fun e => ?_) (fun e => by rw [c3] at e; cases e)
      · kernel_rfl
      refine TS.seq ?_
      have hq : (True) ∧ ((True) ∧ ((True) ∧ (True))) := ⟨trivial, ⟨trivial, ⟨trivial, trivial⟩⟩⟩
      refine TS.reg [] ?_ ?_
      · apply prop_of ?_ hq
        kernel_rfl
      refine XS.then ?_
      refine TS.ret ?_
      refine XS.passR ?_
      obtain rfl : ((0 : Int), (0 : Int), (0 : Int), (0 : Int), (0 : Int), (1 : Int), ([] : List (Int × Int × Bool))) = r := Option.some.inj h
      refine XS.wk (.row true 0 [false] 75 (.st (.pair (.int .u64) (.pair (.int .i64) .bool)))) ?_
      exact XS.fin [1] ((True) ∧ ((True) ∧ (True))) (by kernel_rfl) ⟨trivial, ⟨trivial, trivial⟩⟩
    · refine TS.cond (decide (cells > (64 : Int))) ?_ (fun e => by rw [c4] at e; cases e) (fun e => ?_)
      · kernel_rfl
      refine TS.skip ?_
      refine XS.then ?_
      refine TS.seq ?_
      obtain ⟨t5, h⟩ := test_some h
      have hq : (True) ∧ ((cells = cells ∧ (0 ≤ cells ∧ cells ≤ 17179869184)) ∧ (((True) ∧ (True)) ∧ (((True) ∧ (True)) ∧ (((True) ∧ ((True) ∧ ((True) ∧ (True)))) ∧ ((True) ∧ ((True) ∧ (True))))))) := ⟨trivial, ⟨⟨rfl, of_decide_eq_true t5⟩, ⟨⟨trivial, trivial⟩, ⟨⟨trivial, trivial⟩, ⟨⟨trivial, ⟨trivial, ⟨trivial, trivial⟩⟩⟩, ⟨trivial, ⟨trivial, trivial⟩⟩⟩⟩⟩⟩⟩
      refine TS.reg [] ?_ ?_
      · apply prop_of ?_ hq
        kernel_rfl
      refine XS.then ?_
      refine TS.seq ?_
      obtain ⟨t6, h⟩ := test_some h
      have hq : (True) ∧ ((True) ∧ ((True) ∧ ((True) ∧ ((inR (IntKind.wrap .i64 (cells - (1 : Int))) ((List.replicate cells.toNat ((0 : Int), ((0 : Int), false))).length)) ∧ ((True) ∧ (((((IntKind.wrap .i64 (cells - (1 : Int))).toNat) < (List.replicate cells.toNat ((0 : Int), ((0 : Int), false))).length ∧ (True)) ∧ (List.replicate cells.toNat ((0 : Int), ((0 : Int), false))).length = (List.replicate cells.toNat ((0 : Int), ((0 : Int), false))).length) ∧ (True))))))) := ⟨trivial, ⟨trivial, ⟨trivial, ⟨trivial, ⟨inb_ok t6, ⟨trivial, ⟨⟨⟨inR_lt (inb_ok t6), trivial⟩, rfl⟩, trivial⟩⟩⟩⟩⟩⟩⟩
      refine TS.reg [] ?_ ?_
      · apply prop_of ?_ hq
        kernel_rfl
      refine XS.then ?_
      refine TS.seq ?_
      have hq : (True) ∧ ((True) ∧ ((True) ∧ (True))) := ⟨trivial, ⟨trivial, ⟨trivial, trivial⟩⟩⟩
      refine TS.reg [] ?_ ?_
      · apply prop_of ?_ hq
        kernel_rfl
      refine XS.then ?_
      refine TS.ret ?_
      obtain rfl : ((0 : Int), (1 : Int), (0 : Int), (1 : Int), (0 : Int), (0 : Int), ((List.replicate cells.toNat ((0 : Int), ((0 : Int), false))).set ((IntKind.wrap .i64 (cells - (1 : Int))).toNat) (((List.replicate cells.toNat ((0 : Int), ((0 : Int), false))).getD ((IntKind.wrap .i64 (cells - (1 : Int))).toNat) ((0 : Int), ((0 : Int), false))).1, (((List.replicate cells.toNat ((0 : Int), ((0 : Int), false))).getD ((IntKind.wrap .i64 (cells - (1 : Int))).toNat) ((0 : Int), ((0 : Int), false))).2.1, true)))) = r := Option.some.inj h
      exact XS.fin [1] ((True) ∧ ((True) ∧ (True))) (by kernel_rfl) ⟨trivial, ⟨trivial, trivial⟩⟩

/-! plugtree/ring.Check$1 -/
def F78 (n : Nat) (b : Int) : Option Bool := (bif (b == (0 : Int)) then (some true) else (some (b == (1 : Int))))
theorem F78_ok (n : Nat) (b : Int) (r : Bool) (h : F78 n b = some r) : PureC Try.prog 78 [(.int .i64 b)] (.bool r) [] := by
  refine PureC.mkS Try.func78 rfl rfl ?_
  intro w0 fz0 hfz
  replace h : (bif (b == (0 : Int)) then (some true) else (some (b == (1 : Int)))) = some r := h
  refine TS.seq ?_
  have hq : (True) ∧ (True) := ⟨trivial, trivial⟩
  refine TS.reg [] ?_ ?_
  · apply prop_of ?_ hq
    kernel_rfl
  refine XS.then ?_
  refine TS.seq ?_
  rcases bif_some h with ⟨c1, h⟩ | ⟨c2, h⟩
  · have hq : (True) ∧ ((True) ∧ (((True) ∧ (b == (0 : Int)) = true) ∧ ((True) ∧ ((True) ∧ (True))))) := ⟨trivial, ⟨trivial, ⟨⟨trivial, c1⟩, ⟨trivial, ⟨trivial, trivial⟩⟩⟩⟩⟩
    refine TS.reg [.none, .none, .dec true] ?_ ?_
    · apply prop_of ?_ hq
      kernel_rfl
    refine XS.then ?_
    refine TS.ret ?_
    obtain rfl : true = r := Option.some.inj h
    exact XS.fin [] ((True) ∧ (True)) (by kernel_rfl) ⟨trivial, trivial⟩
  · have hq : (True) ∧ ((True) ∧ (((True) ∧ (b == (0 : Int)) = false) ∧ ((True) ∧ ((True) ∧ ((True) ∧ ((True) ∧ (True))))))) := ⟨trivial, ⟨trivial, ⟨⟨trivial, c2⟩, ⟨trivial, ⟨trivial, ⟨trivial, ⟨trivial, trivial⟩⟩⟩⟩⟩⟩⟩
    refine TS.reg [.none, .none, .dec false] ?_ ?_
    · apply prop_of ?_ hq
      kernel_rfl
    refine XS.then ?_
    refine TS.ret ?_
    obtain rfl : (b == (1 : Int)) = r := Option.some.inj h
    exact XS.fin [] ((True) ∧ (True)) (by kernel_rfl) ⟨trivial, trivial⟩

/-! plugtree/ring.Check$2 -/
def F79 (n : Nat) (k : Int) (x : Int) : Option Bool := (bif (decide (k ≥ (0 : Int))) then (some (decide (k < (IntKind.wrap .i64 (x - (1 : Int)))))) else (some false))
theorem F79_ok (n : Nat) (k : Int) (x : Int) (r : Bool) (h : F79 n k x = some r) : PureC Try.prog 79 [(.int .i64 k), (.pv (.int .i64 x))] (.bool r) [] := by
  refine PureC.mkS Try.func79 rfl rfl ?_
  intro w0 fz0 hfz
  replace h : (bif (decide (k ≥ (0 : Int))) then (some (decide (k < (IntKind.wrap .i64 (x - (1 : Int)))))) else (some false)) = some r := h
  refine TS.seq ?_
  have hq : (True) ∧ (True) := ⟨trivial, trivial⟩
  refine TS.reg [] ?_ ?_
  · apply prop_of ?_ hq
    kernel_rfl
  refine XS.then ?_
  refine TS.seq ?_
  rcases bif_some h with ⟨c1, h⟩ | ⟨c2, h⟩
  · have hq : (True) ∧ ((True) ∧ (((True) ∧ (decide (k ≥ (0 : Int))) = true) ∧ ((True) ∧ ((True) ∧ ((True) ∧ ((True) ∧ ((True) ∧ ((True) ∧ (True))))))))) := ⟨trivial, ⟨trivial, ⟨⟨trivial, c1⟩, ⟨trivial, ⟨trivial, ⟨trivial, ⟨trivial, ⟨trivial, ⟨trivial, trivial⟩⟩⟩⟩⟩⟩⟩⟩⟩
    refine TS.reg [.none, .none, .dec true] ?_ ?_
    · apply prop_of ?_ hq
      kernel_rfl
    refine XS.then ?_
    refine TS.ret ?_
    obtain rfl : (decide (k < (IntKind.wrap .i64 (x - (1 : Int))))) = r := Option.some.inj h
    exact XS.fin [] ((True) ∧ (True)) (by kernel_rfl) ⟨trivial, trivial⟩
  · have hq : (True) ∧ ((True) ∧ (((True) ∧ (decide (k ≥ (0 : Int))) = false) ∧ ((True) ∧ ((True) ∧ (True))))) := ⟨trivial, ⟨trivial, ⟨⟨trivial, c2⟩, ⟨trivial, ⟨trivial, trivial⟩⟩⟩⟩⟩
    refine TS.reg [.none, .none, .dec false] ?_ ?_
    · apply prop_of ?_ hq
      kernel_rfl
    refine XS.then ?_
    refine TS.ret ?_
    obtain rfl : false = r := Option.some.inj h
    exact XS.fin [] ((True) ∧ (True)) (by kernel_rfl) ⟨trivial, trivial⟩

/-! plugtree/ring.Check -/
def F36_l2 (n : Nat) (r_Cells : List (Int × Int × Bool)) (r_Put_At : Int) (r_Put_Bit : Int) (r_Get_At : Int) (r_Get_Bit : Int) (r_Seen : Int) (k36_2 : Int → Option Int) : Int → Option Int
  | x => (bif (decide (x < ((r_Cells.length : Nat) : Int))) then (bif inb x r_Cells.length then (bif (!((r_Cells.getD x.toNat ((0 : Int), ((0 : Int), false))).2.2 == (x == (IntKind.wrap .i64 (((r_Cells.length : Nat) : Int) - (1 : Int)))))) then (some (4 : Int)) else ((F78 n ((r_Cells.getD x.toNat ((0 : Int), ((0 : Int), false))).2.1)).bind fun y_2 => (bif (!y_2) then (some (4 : Int)) else (k36_2 (IntKind.wrap .i64 (x + (1 : Int))))))) else none) else ((F78 n r_Put_Bit).bind fun y_3 => (bif (!y_3) then (some (4 : Int)) else ((F78 n r_Get_Bit).bind fun y_4 => (bif (!y_4) then (some (4 : Int)) else (bif inb (IntKind.wrap .i64 (((r_Cells.length : Nat) : Int) - (1 : Int))) r_Cells.length then (bif ((r_Cells.getD ((IntKind.wrap .i64 (((r_Cells.length : Nat) : Int) - (1 : Int))).toNat) ((0 : Int), ((0 : Int), false))).1 != (0 : Int)) then (some (4 : Int)) else ((F79 n r_Put_At ((r_Cells.length : Nat) : Int)).bind fun y_5 => (bif (!y_5) then (some (4 : Int)) else ((F79 n r_Get_At ((r_Cells.length : Nat) : Int)).bind fun y_6 => (bif (!y_6) then (some (4 : Int)) else ((F79 n r_Seen ((r_Cells.length : Nat) : Int)).bind fun y_7 => (bif (!y_7) then (some (4 : Int)) else (some (0 : Int))))))))) else none))))))
def F36 (n : Nat) (r_Cells : List (Int × Int × Bool)) (r_Put_At : Int) (r_Put_Bit : Int) (r_Get_At : Int) (r_Get_Bit : Int) (r_Seen : Int) : Option Int := (bif (decide (((r_Cells.length : Nat) : Int) < (3 : Int))) then (some (1 : Int)) else (bif (decide (((r_Cells.length : Nat) : Int) > (64 : Int))) then (some (1 : Int)) else (loopF (F36_l2 n r_Cells r_Put_At r_Put_Bit r_Get_At r_Get_Bit r_Seen) n (0 : Int))))
theorem F36_ok (n : Nat) (r_Cells : List (Int × Int × Bool)) (r_Put_At : Int) (r_Put_Bit : Int) (r_Get_At : Int) (r_Get_Bit : Int) (r_Seen : Int) (r : Int) (h : F36 n r_Cells r_Put_At r_Put_Bit r_Get_At r_Get_Bit r_Seen = some r) : PureC Try.prog 36 [(.st (.cons (.sl (.st (.pair (.int .u64) (.pair (.int .i64) .bool))) r_Cells) (.cons (.st (.cons (.int .i64 r_Put_At) (.int .i64 r_Put_Bit))) (.cons (.st (.cons (.int .i64 r_Get_At) (.int .i64 r_Get_Bit))) (.int .i64 r_Seen)))))] (.int .i64 r) [] := by
  refine PureC.mkS Try.func36 rfl rfl ?_
  intro w0 fz0 hfz
  replace h : (bif (decide (((r_Cells.length : Nat) : Int) < (3 : Int))) then (some (1 : Int)) else (bif (decide (((r_Cells.length : Nat) : Int) > (64 : Int))) then (some (1 : Int)) else (loopF (F36_l2 n r_Cells r_Put_At r_Put_Bit r_Get_At r_Get_Bit r_Seen) n (0 : Int)))) = some r := h
  refine TS.seq ?_
  have hq : (True) ∧ ((True) ∧ (True)) := ⟨trivial, ⟨trivial, trivial⟩⟩
  refine TS.reg [] ?_ ?_
  · apply prop_of ?_ hq
    kernel_rfl
  refine XS.then ?_
  refine TS.seq ?_
  have hq : (True) ∧ ((True) ∧ ((True) ∧ ((True) ∧ ((True) ∧ (True))))) := ⟨trivial, ⟨trivial, ⟨trivial, ⟨trivial, ⟨trivial, trivial⟩⟩⟩⟩⟩
  refine TS.reg [] ?_ ?_
  · apply prop_of ?_ hq
    kernel_rfl
  refine XS.then ?_
  refine TS.seq ?_
  refine TS.seq ?_
  rcases bif_some h with ⟨c1, h⟩ | ⟨c2, h⟩
  · have hq : (True) ∧ ((True) ∧ (((True) ∧ (decide (((r_Cells.length : Nat) : Int) < (3 : Int))) = true) ∧ ((True) ∧ (True)))) := ⟨trivial, ⟨trivial, ⟨⟨trivial, c1⟩, ⟨trivial, trivial⟩⟩⟩⟩
    refine TS.reg [.none, .none, .dec true] ?_ ?_
    · apply prop_of ?_ hq
      kernel_rfl
    refine XS.then ?_
    refine TS.yes ?_ ?_
    · kernel_rfl
    refine TS.seq ?_
    have hq : (True) ∧ (True) := ⟨trivial, trivial⟩
    refine TS.reg [] ?_ ?_
    · apply prop_of ?_ hq
      kernel_rfl
    refine XS.then ?_
    refine TS.ret ?_
    refine XS.passR ?_
    obtain rfl : (1 : Int) = r := Option.some.inj h
    exact XS.fin [] ((True) ∧ (True)) (by kernel_rfl) ⟨trivial, trivial⟩
  · have hq : (True) ∧ ((True) ∧ (((True) ∧ (decide (((r_Cells.length : Nat) : Int) < (3 : Int))) = false) ∧ ((True) ∧ ((True) ∧ ((True) ∧ (True)))))) := ⟨trivial, ⟨trivial, ⟨⟨trivial, c2⟩, ⟨trivial, ⟨trivial, ⟨trivial, trivial⟩⟩⟩⟩⟩⟩
    refine TS.reg [.none, .none, .dec false] ?_ ?_
    · apply prop_of ?_ hq
      kernel_rfl
    refine XS.then ?_
    rcases bif_some h with ⟨c3, h⟩ | ⟨c4, h⟩
    · refine TS.cond (decide (((r_Cells.length : Nat) : Int) > (64 : Int))) ?_ (fun e => ?_) (fun e => by rw [c3] at e; cases e)
      · kernel_rfl
      refine TS.seq ?_
      have hq : (True) ∧ (True) := ⟨trivial, trivial⟩
      refine TS.reg [] ?_ ?_
      · apply prop_of ?_ hq
        kernel_rfl
      refine XS.then ?_
      refine TS.ret ?_
      refine XS.passR ?_
      obtain rfl : (1 : Int) = r := Option.some.inj h
      exact XS.fin [] ((True) ∧ (True)) (by kernel_rfl) ⟨trivial, trivial⟩
    · refine TS.cond (decide (((r_Cells.length : Nat) : Int) > (64 : Int))) ?_ (fun e => by rw [c4] at e; cases e) (fun e => ?_)
      · kernel_rfl
      refine TS.skip ?_
      refine XS.then ?_
      refine TS.seq ?_
      have hq : (True) ∧ (True) := ⟨trivial, trivial⟩
      refine TS.reg [] ?_ ?_
      · apply prop_of ?_ hq
        kernel_rfl
      refine XS.then ?_
      refine TS.seq ?_
      have hq : (True) ∧ ((True) ∧ (True)) := ⟨trivial, ⟨trivial, trivial⟩⟩
      refine TS.reg [] ?_ ?_
      · apply prop_of ?_ hq
        kernel_rfl
      refine XS.then ?_
      refine TS.seq ?_
      refine TS.seq ?_
      have hq : (True) ∧ ((True) ∧ ((True) ∧ ((True) ∧ (True)))) := ⟨trivial, ⟨trivial, ⟨trivial, ⟨trivial, trivial⟩⟩⟩⟩
      refine TS.reg [] ?_ ?_
      · apply prop_of ?_ hq
        kernel_rfl
      refine XS.then ?_
      refine TS.block ?_
      refine TS.reLoop [0, 1] (mkMask 88 [1, 3, 4, 5, 19, 20, 21]) (D := Int) (fun d => match d with | x => (mkTs 88 [(1, (.ptr 0 [])), (3, (.ptr 1 [])), (4, (.fn 78 .nil)), (5, (.fn 79 (.cons (.ptr 1 []) .nil))), (19, (.sl (.st (.pair (.int .u64) (.pair (.int .i64) .bool))) r_Cells)), (20, (.int .i64 ((r_Cells.length : Nat) : Int))), (21, (.int .i64 x))], [(.box 65 (.st (.cons (.sl (.st (.pair (.int .u64) (.pair (.int .i64) .bool))) r_Cells) (.cons (.st (.cons (.int .i64 r_Put_At) (.int .i64 r_Put_Bit))) (.cons (.st (.cons (.int .i64 r_Get_At) (.int .i64 r_Get_Bit))) (.int .i64 r_Seen)))))), (.box 3 (.int .i64 ((r_Cells.length : Nat) : Int)))])) (fun n' d => loopF (F36_l2 n r_Cells r_Put_At r_Put_Bit r_Get_At r_Get_Bit r_Seen) n' d = some r) n (0 : Int) h ?_ (fun d => loopF_zero _ d r) ?_
      · kernel_rfl
      · rintro n2 x h
        replace h : (bif (decide (x < ((r_Cells.length : Nat) : Int))) then (bif inb x r_Cells.length then (bif (!((r_Cells.getD x.toNat ((0 : Int), ((0 : Int), false))).2.2 == (x == (IntKind.wrap .i64 (((r_Cells.length : Nat) : Int) - (1 : Int)))))) then (some (4 : Int)) else ((F78 n ((r_Cells.getD x.toNat ((0 : Int), ((0 : Int), false))).2.1)).bind fun y_2 => (bif (!y_2) then (some (4 : Int)) else ((loopF (F36_l2 n r_Cells r_Put_At r_Put_Bit r_Get_At r_Get_Bit r_Seen) n2) (IntKind.wrap .i64 (x + (1 : Int))))))) else none) else ((F78 n r_Put_Bit).bind fun y_3 => (bif (!y_3) then (some (4 : Int)) else ((F78 n r_Get_Bit).bind fun y_4 => (bif (!y_4) then (some (4 : Int)) else (bif inb (IntKind.wrap .i64 (((r_Cells.length : Nat) : Int) - (1 : Int))) r_Cells.length then (bif ((r_Cells.getD ((IntKind.wrap .i64 (((r_Cells.length : Nat) : Int) - (1 : Int))).toNat) ((0 : Int), ((0 : Int), false))).1 != (0 : Int)) then (some (4 : Int)) else ((F79 n r_Put_At ((r_Cells.length : Nat) : Int)).bind fun y_5 => (bif (!y_5) then (some (4 : Int)) else ((F79 n r_Get_At ((r_Cells.length : Nat) : Int)).bind fun y_6 => (bif (!y_6) then (some (4 : Int)) else ((F79 n r_Seen ((r_Cells.length : Nat) : Int)).bind fun y_7 => (bif (!y_7) then (some (4 : Int)) else (some (0 : Int))))))))) else none)))))) = some r := h
        refine TS.seq ?_
        have hq : (True) ∧ (True) := ⟨trivial, trivial⟩
        refine TS.reg [] ?_ ?_
        · apply prop_of ?_ hq
          kernel_rfl
        refine XS.then ?_
        refine TS.seq ?_
        rcases bif_some h with ⟨c5, h⟩ | ⟨c6, h⟩
        · refine TS.cond (decide (x < ((r_Cells.length : Nat) : Int))) ?_ (fun e => ?_) (fun e => by rw [c5] at e; cases e)
          · kernel_rfl
          refine TS.skip ?_
          refine XS.then ?_
          refine TS.seq ?_
          refine TS.block ?_
          refine TS.seq ?_
          obtain ⟨t7, h⟩ := test_some h
          have hq : (True) ∧ ((inR x r_Cells.length) ∧ ((True) ∧ ((True) ∧ ((True) ∧ ((True) ∧ (True)))))) := ⟨trivial, ⟨inb_ok t7, ⟨trivial, ⟨trivial, ⟨trivial, ⟨trivial, trivial⟩⟩⟩⟩⟩⟩
          refine TS.reg [] ?_ ?_
          · apply prop_of ?_ hq
            kernel_rfl
          refine XS.then ?_
          refine TS.seq ?_
          rcases bif_some h with ⟨c8, h⟩ | ⟨c9, h⟩
          · have hq : (True) ∧ ((True) ∧ ((True) ∧ ((True) ∧ ((True) ∧ ((True) ∧ ((True) ∧ (((True) ∧ (!((r_Cells.getD x.toNat ((0 : Int), ((0 : Int), false))).2.2 == (x == (IntKind.wrap .i64 (((r_Cells.length : Nat) : Int) - (1 : Int)))))) = true) ∧ ((True) ∧ (True))))))))) := ⟨trivial, ⟨trivial, ⟨trivial, ⟨trivial, ⟨trivial, ⟨trivial, ⟨trivial, ⟨⟨trivial, c8⟩, ⟨trivial, trivial⟩⟩⟩⟩⟩⟩⟩⟩⟩
            refine TS.reg [.none, .none, .none, .none, .none, .none, .none, .dec true] ?_ ?_
            · apply prop_of ?_ hq
              kernel_rfl
            refine XS.then ?_
            refine TS.yes ?_ ?_
            · kernel_rfl
            refine TS.seq ?_
            have hq : (True) ∧ (True) := ⟨trivial, trivial⟩
            refine TS.reg [] ?_ ?_
            · apply prop_of ?_ hq
              kernel_rfl
            refine XS.then ?_
            refine TS.ret ?_
            refine XS.blockRet ?_
            refine XS.passR ?_
            refine XS.passR ?_
            refine XS.blockRet ?_
            refine XS.passR ?_
            obtain rfl : (4 : Int) = r := Option.some.inj h
            exact XS.fin [] ((True) ∧ (True)) (by kernel_rfl) ⟨trivial, trivial⟩
          · obtain ⟨y_2, hx10, h⟩ := bind_some' h
            have hq : (True) ∧ ((True) ∧ ((True) ∧ ((True) ∧ ((True) ∧ ((True) ∧ ((True) ∧ (((True) ∧ (!((r_Cells.getD x.toNat ((0 : Int), ((0 : Int), false))).2.2 == (x == (IntKind.wrap .i64 (((r_Cells.length : Nat) : Int) - (1 : Int)))))) = false) ∧ ((True) ∧ ((True) ∧ ((True) ∧ ((PureC Try.prog 78 [(.int .i64 (r_Cells.getD x.toNat ((0 : Int), ((0 : Int), false))).2.1)] (.bool y_2) []) ∧ ((True) ∧ ((True) ∧ (True)))))))))))))) := ⟨trivial, ⟨trivial, ⟨trivial, ⟨trivial, ⟨trivial, ⟨trivial, ⟨trivial, ⟨⟨trivial, c9⟩, ⟨trivial, ⟨trivial, ⟨trivial, ⟨F78_ok n ((r_Cells.getD x.toNat ((0 : Int), ((0 : Int), false))).2.1) y_2 hx10, ⟨trivial, ⟨trivial, trivial⟩⟩⟩⟩⟩⟩⟩⟩⟩⟩⟩⟩⟩⟩
            refine TS.reg [.none, .none, .none, .none, .none, .none, .none, .dec false, .none, .none, .none, (.call (.bool y_2) [])] ?_ ?_
            · apply prop_of ?_ hq
              kernel_rfl
            refine XS.then ?_
            rcases bif_some h with ⟨c11, h⟩ | ⟨c12, h⟩
            · refine TS.cond (!y_2) ?_ (fun e => ?_) (fun e => by rw [c11] at e; cases e)
              · kernel_rfl
              refine TS.seq ?_
              have hq : (True) ∧ (True) := ⟨trivial, trivial⟩
              refine TS.reg [] ?_ ?_
              · apply prop_of ?_ hq
                kernel_rfl
              refine XS.then ?_
              refine TS.ret ?_
              refine XS.blockRet ?_
              refine XS.passR ?_
              refine XS.passR ?_
              refine XS.blockRet ?_
              refine XS.passR ?_
              obtain rfl : (4 : Int) = r := Option.some.inj h
              exact XS.fin [] ((True) ∧ (True)) (by kernel_rfl) ⟨trivial, trivial⟩
            · refine TS.cond (!y_2) ?_ (fun e => by rw [c12] at e; cases e) (fun e => ?_)
              · kernel_rfl
              refine TS.skip ?_
              refine XS.blockEnd ?_
              refine XS.then ?_
              have hq : (True) ∧ ((True) ∧ (True)) := ⟨trivial, ⟨trivial, trivial⟩⟩
              refine TS.reg [] ?_ ?_
              · apply prop_of ?_ hq
                kernel_rfl
              refine XS.reAny [0, 1] (mkMask 88 [1, 3, 4, 5, 19, 20, 21]) (IntKind.wrap .i64 (x + (1 : Int))) h ?_
              kernel_rfl
        · refine TS.cond (decide (x < ((r_Cells.length : Nat) : Int))) ?_ (fun e => by rw [c6] at e; cases e) (fun e => ?_)
          · kernel_rfl
          refine TS.exit ?_
          refine XS.passE ?_
          refine XS.passE ?_
          refine XS.out ?_
          refine XS.then ?_
          refine TS.seq ?_
          refine TS.seq ?_
          obtain ⟨y_3, hx13, h⟩ := bind_some' h
          rcases bif_some h with ⟨c14, h⟩ | ⟨c15, h⟩
          · have hq : (True) ∧ ((True) ∧ ((True) ∧ ((True) ∧ ((PureC Try.prog 78 [(.int .i64 r_Put_Bit)] (.bool y_3) []) ∧ ((True) ∧ (((True) ∧ (!y_3) = true) ∧ ((True) ∧ ((True) ∧ ((True) ∧ ((True) ∧ ((True) ∧ ((True) ∧ ((True) ∧ ((True) ∧ ((True) ∧ (True)))))))))))))))) := ⟨trivial, ⟨trivial, ⟨trivial, ⟨trivial, ⟨F78_ok n r_Put_Bit y_3 hx13, ⟨trivial, ⟨⟨trivial, c14⟩, ⟨trivial, ⟨trivial, ⟨trivial, ⟨trivial, ⟨trivial, ⟨trivial, ⟨trivial, ⟨trivial, ⟨trivial, trivial⟩⟩⟩⟩⟩⟩⟩⟩⟩⟩⟩⟩⟩⟩⟩⟩
            refine TS.reg [.none, .none, .none, .none, (.call (.bool y_3) []), .none, .dec true] ?_ ?_
            · apply prop_of ?_ hq
              kernel_rfl
            refine XS.then ?_
            refine TS.yes ?_ ?_
            · kernel_rfl
            refine TS.seq ?_
            have hq : (True) ∧ (True) := ⟨trivial, trivial⟩
            refine TS.reg [] ?_ ?_
            · apply prop_of ?_ hq
              kernel_rfl
            refine XS.then ?_
            refine TS.ret ?_
            refine XS.passR ?_
            obtain rfl : (4 : Int) = r := Option.some.inj h
            exact XS.fin [] ((True) ∧ (True)) (by kernel_rfl) ⟨trivial, trivial⟩
          · obtain ⟨y_4, hx16, h⟩ := bind_some' h
            rcases bif_some h with ⟨c17, h⟩ | ⟨c18, h⟩
            · have hq : (True) ∧ ((True) ∧ ((True) ∧ ((True) ∧ ((PureC Try.prog 78 [(.int .i64 r_Put_Bit)] (.bool y_3) []) ∧ ((True) ∧ (((True) ∧ (!y_3) = false) ∧ ((True) ∧ ((True) ∧ ((True) ∧ ((True) ∧ ((PureC Try.prog 78 [(.int .i64 r_Get_Bit)] (.bool y_4) []) ∧ ((True) ∧ ((True) ∧ (((True) ∧ (!y_4) = true) ∧ ((True) ∧ ((True) ∧ ((True) ∧ ((True) ∧ ((True) ∧ ((True) ∧ ((True) ∧ (True)))))))))))))))))))))) := ⟨trivial, ⟨trivial, ⟨trivial, ⟨trivial, ⟨F78_ok n r_Put_Bit y_3 hx13, ⟨trivial, ⟨⟨trivial, c15⟩, ⟨trivial, ⟨trivial, ⟨trivial, ⟨trivial, ⟨F78_ok n r_Get_Bit y_4 hx16, ⟨trivial, ⟨trivial, ⟨⟨trivial, c17⟩, ⟨trivial, ⟨trivial, ⟨trivial, ⟨trivial, ⟨trivial, ⟨trivial, ⟨trivial, trivial⟩⟩⟩⟩⟩⟩⟩⟩⟩⟩⟩⟩⟩⟩⟩⟩⟩⟩⟩⟩⟩⟩
              refine TS.reg [.none, .none, .none, .none, (.call (.bool y_3) []), .none, .dec false, .none, .none, .none, .none, (.call (.bool y_4) []), .none, .none, .dec true] ?_ ?_
              · apply prop_of ?_ hq
                kernel_rfl
              refine XS.then ?_
              refine TS.yes ?_ ?_
              · kernel_rfl
              refine TS.seq ?_
              have hq : (True) ∧ (True) := ⟨trivial, trivial⟩
              refine TS.reg [] ?_ ?_
              · apply prop_of ?_ hq
                kernel_rfl
              refine XS.then ?_
              refine TS.ret ?_
              refine XS.passR ?_
              obtain rfl : (4 : Int) = r := Option.some.inj h
              exact XS.fin [] ((True) ∧ (True)) (by kernel_rfl) ⟨trivial, trivial⟩
            · obtain ⟨t19, h⟩ := test_some h
              rcases bif_some h with ⟨c20, h⟩ | ⟨c21, h⟩
              · have hq : (True) ∧ ((True) ∧ ((True) ∧ ((True) ∧ ((PureC Try.prog 78 [(.int .i64 r_Put_Bit)] (.bool y_3) []) ∧ ((True) ∧ (((True) ∧ (!y_3) = false) ∧ ((True) ∧ ((True) ∧ ((True) ∧ ((True) ∧ ((PureC Try.prog 78 [(.int .i64 r_Get_Bit)] (.bool y_4) []) ∧ ((True) ∧ ((True) ∧ (((True) ∧ (!y_4) = false) ∧ ((True) ∧ ((True) ∧ ((True) ∧ ((True) ∧ ((inR (IntKind.wrap .i64 (((r_Cells.length : Nat) : Int) - (1 : Int))) r_Cells.length) ∧ ((True) ∧ ((True) ∧ ((True) ∧ ((True) ∧ (((True) ∧ ((r_Cells.getD ((IntKind.wrap .i64 (((r_Cells.length : Nat) : Int) - (1 : Int))).toNat) ((0 : Int), ((0 : Int), false))).1 != (0 : Int)) = true) ∧ ((True) ∧ ((True) ∧ ((True) ∧ ((True) ∧ ((True) ∧ (True)))))))))))))))))))))))))))))) := ⟨trivial, ⟨trivial, ⟨trivial, ⟨trivial, ⟨F78_ok n r_Put_Bit y_3 hx13, ⟨trivial, ⟨⟨trivial, c15⟩, ⟨trivial, ⟨trivial, ⟨trivial, ⟨trivial, ⟨F78_ok n r_Get_Bit y_4 hx16, ⟨trivial, ⟨trivial, ⟨⟨trivial, c18⟩, ⟨trivial, ⟨trivial, ⟨trivial, ⟨trivial, ⟨inb_ok t19, ⟨trivial, ⟨trivial, ⟨trivial, ⟨trivial, ⟨⟨trivial, c20⟩, ⟨trivial, ⟨trivial, ⟨trivial, ⟨trivial, ⟨trivial, trivial⟩⟩⟩⟩⟩⟩⟩⟩⟩⟩⟩⟩⟩⟩⟩⟩⟩⟩⟩⟩⟩⟩⟩⟩⟩⟩⟩⟩⟩⟩
                refine TS.reg [.none, .none, .none, .none, (.call (.bool y_3) []), .none, .dec false, .none, .none, .none, .none, (.call (.bool y_4) []), .none, .none, .dec false, .none, .none, .none, .none, .none, .none, .none, .none, .none, .dec true] ?_ ?_
                · apply prop_of ?_ hq
                  kernel_rfl
                refine XS.then ?_
                refine TS.yes ?_ ?_
                · kernel_rfl
                refine TS.seq ?_
                have hq : (True) ∧ (True) := ⟨trivial, trivial⟩
                refine TS.reg [] ?_ ?_
                · apply prop_of ?_ hq
                  kernel_rfl
                refine XS.then ?_
                refine TS.ret ?_
                refine XS.passR ?_
                obtain rfl : (4 : Int) = r := Option.some.inj h
                exact XS.fin [] ((True) ∧ (True)) (by kernel_rfl) ⟨trivial, trivial⟩
              · obtain ⟨y_5, hx22, h⟩ := bind_some' h
                rcases bif_some h with ⟨c23, h⟩ | ⟨c24, h⟩
                · have hq : (True) ∧ ((True) ∧ ((True) ∧ ((True) ∧ ((PureC Try.prog 78 [(.int .i64 r_Put_Bit)] (.bool y_3) []) ∧ ((True) ∧ (((True) ∧ (!y_3) = false) ∧ ((True) ∧ ((True) ∧ ((True) ∧ ((True) ∧ ((PureC Try.prog 78 [(.int .i64 r_Get_Bit)] (.bool y_4) []) ∧ ((True) ∧ ((True) ∧ (((True) ∧ (!y_4) = false) ∧ ((True) ∧ ((True) ∧ ((True) ∧ ((True) ∧ ((inR (IntKind.wrap .i64 (((r_Cells.length : Nat) : Int) - (1 : Int))) r_Cells.length) ∧ ((True) ∧ ((True) ∧ ((True) ∧ ((True) ∧ (((True) ∧ ((r_Cells.getD ((IntKind.wrap .i64 (((r_Cells.length : Nat) : Int) - (1 : Int))).toNat) ((0 : Int), ((0 : Int), false))).1 != (0 : Int)) = false) ∧ ((True) ∧ ((True) ∧ ((True) ∧ ((True) ∧ ((((True) ∧ ((True) ∧ (True))) ∧ PureC Try.prog 79 [(.int .i64 r_Put_At), (.pv (.int .i64 ((r_Cells.length : Nat) : Int)))] (.bool y_5) []) ∧ ((True) ∧ ((True) ∧ (((True) ∧ (!y_5) = true) ∧ ((True) ∧ ((True) ∧ ((True) ∧ (True)))))))))))))))))))))))))))))))))))) := ⟨trivial, ⟨trivial, ⟨trivial, ⟨trivial, ⟨F78_ok n r_Put_Bit y_3 hx13, ⟨trivial, ⟨⟨trivial, c15⟩, ⟨trivial, ⟨trivial, ⟨trivial, ⟨trivial, ⟨F78_ok n r_Get_Bit y_4 hx16, ⟨trivial, ⟨trivial, ⟨⟨trivial, c18⟩, ⟨trivial, ⟨trivial, ⟨trivial, ⟨trivial, ⟨inb_ok t19, ⟨trivial, ⟨trivial, ⟨trivial, ⟨trivial, ⟨⟨trivial, c21⟩, ⟨trivial, ⟨trivial, ⟨trivial, ⟨trivial, ⟨⟨⟨trivial, ⟨trivial, trivial⟩⟩, F79_ok n r_Put_At ((r_Cells.length : Nat) : Int) y_5 hx22⟩, ⟨trivial, ⟨trivial, ⟨⟨trivial, c23⟩, ⟨trivial, ⟨trivial, ⟨trivial, trivial⟩⟩⟩⟩⟩⟩⟩⟩⟩⟩⟩⟩⟩⟩⟩⟩⟩⟩⟩⟩⟩⟩⟩⟩⟩⟩⟩⟩⟩⟩⟩⟩⟩⟩⟩⟩
                  refine TS.reg [.none, .none, .none, .none, (.call (.bool y_3) []), .none, .dec false, .none, .none, .none, .none, (.call (.bool y_4) []), .none, .none, .dec false, .none, .none, .none, .none, .none, .none, .none, .none, .none, .dec false, .none, .none, .none, .none, (.call (.bool y_5) []), .none, .none, .dec true] ?_ ?_
                  · apply prop_of ?_ hq
                    kernel_rfl
                  refine XS.then ?_
                  refine TS.yes ?_ ?_
                  · kernel_rfl
                  refine TS.seq ?_
                  have hq : (True) ∧ (True) := ⟨trivial, trivial⟩
                  refine TS.reg [] ?_ ?_
                  · apply prop_of ?_ hq
                    kernel_rfl
                  refine XS.then ?_
                  refine TS.ret ?_
                  refine XS.passR ?_
                  obtain rfl : (4 : Int) = r := Option.some.inj h
                  exact XS.fin [] ((True) ∧ (True)) (by kernel_rfl) ⟨trivial, trivial⟩
                · obtain ⟨y_6, hx25, h⟩ := bind_some' h
                  rcases bif_some h with ⟨c26, h⟩ | ⟨c27, h⟩
                  · have hq : (True) ∧ ((True) ∧ ((True) ∧ ((True) ∧ ((PureC Try.prog 78 [(.int .i64 r_Put_Bit)] (.bool y_3) []) ∧ ((True) ∧ (((True) ∧ (!y_3) = false) ∧ ((True) ∧ ((True) ∧ ((True) ∧ ((True) ∧ ((PureC Try.prog 78 [(.int .i64 r_Get_Bit)] (.bool y_4) []) ∧ ((True) ∧ ((True) ∧ (((True) ∧ (!y_4) = false) ∧ ((True) ∧ ((True) ∧ ((True) ∧ ((True) ∧ ((inR (IntKind.wrap .i64 (((r_Cells.length : Nat) : Int) - (1 : Int))) r_Cells.length) ∧ ((True) ∧ ((True) ∧ ((True) ∧ ((True) ∧ (((True) ∧ ((r_Cells.getD ((IntKind.wrap .i64 (((r_Cells.length : Nat) : Int) - (1 : Int))).toNat) ((0 : Int), ((0 : Int), false))).1 != (0 : Int)) = false) ∧ ((True) ∧ ((True) ∧ ((True) ∧ ((True) ∧ ((((True) ∧ ((True) ∧ (True))) ∧ PureC Try.prog 79 [(.int .i64 r_Put_At), (.pv (.int .i64 ((r_Cells.length : Nat) : Int)))] (.bool y_5) []) ∧ ((True) ∧ ((True) ∧ (((True) ∧ (!y_5) = false) ∧ ((True) ∧ ((True) ∧ ((True) ∧ ((True) ∧ ((((True) ∧ ((True) ∧ (True))) ∧ PureC Try.prog 79 [(.int .i64 r_Get_At), (.pv (.int .i64 ((r_Cells.length : Nat) : Int)))] (.bool y_6) []) ∧ ((True) ∧ ((True) ∧ (((True) ∧ (!y_6) = true) ∧ ((True) ∧ (True)))))))))))))))))))))))))))))))))))))))))) := ⟨trivial, ⟨trivial, ⟨trivial, ⟨trivial, ⟨F78_ok n r_Put_Bit y_3 hx13, ⟨trivial, ⟨⟨trivial, c15⟩, ⟨trivial, ⟨trivial, ⟨trivial, ⟨trivial, ⟨F78_ok n r_Get_Bit y_4 hx16, ⟨trivial, ⟨trivial, ⟨⟨trivial, c18⟩, ⟨trivial, ⟨trivial, ⟨trivial, ⟨trivial, ⟨inb_ok t19, ⟨trivial, ⟨trivial, ⟨trivial, ⟨trivial, ⟨⟨trivial, c21⟩, ⟨trivial, ⟨trivial, ⟨trivial, ⟨trivial, ⟨⟨⟨trivial, ⟨trivial, trivial⟩⟩, F79_ok n r_Put_At ((r_Cells.length : Nat) : Int) y_5 hx22⟩, ⟨trivial, ⟨trivial, ⟨⟨trivial, c24⟩, ⟨trivial, ⟨trivial, ⟨trivial, ⟨trivial, ⟨⟨⟨trivial, ⟨trivial, trivial⟩⟩, F79_ok n r_Get_At ((r_Cells.length : Nat) : Int) y_6 hx25⟩, ⟨trivial, ⟨trivial, ⟨⟨trivial, c26⟩, ⟨trivial, trivial⟩⟩⟩⟩⟩⟩⟩⟩⟩⟩⟩⟩⟩⟩⟩⟩⟩⟩⟩⟩⟩⟩⟩⟩⟩⟩⟩⟩⟩⟩⟩⟩⟩⟩⟩⟩⟩⟩⟩⟩⟩⟩
                    refine TS.reg [.none, .none, .none, .none, (.call (.bool y_3) []), .none, .dec false, .none, .none, .none, .none, (.call (.bool y_4) []), .none, .none, .dec false, .none, .none, .none, .none, .none, .none, .none, .none, .none, .dec false, .none, .none, .none, .none, (.call (.bool y_5) []), .none, .none, .dec false, .none, .none, .none, .none, (.call (.bool y_6) []), .none, .none, .dec true] ?_ ?_
                    · apply prop_of ?_ hq
                      kernel_rfl
                    refine XS.then ?_
                    refine TS.yes ?_ ?_
                    · kernel_rfl
                    refine TS.seq ?_
                    have hq : (True) ∧ (True) := ⟨trivial, trivial⟩
                    refine TS.reg [] ?_ ?_
                    · apply prop_of ?_ hq
                      kernel_rfl
                    refine XS.then ?_
                    refine TS.ret ?_
                    refine XS.passR ?_
                    obtain rfl : (4 : Int) = r := Option.some.inj h
                    exact XS.fin [] ((True) ∧ (True)) (by kernel_rfl) ⟨trivial, trivial⟩
                  · obtain ⟨y_7, hx28, h⟩ := bind_some' h
                    have hq : (True) ∧ ((True) ∧ ((True) ∧ ((True) ∧ ((PureC Try.prog 78 [(.int .i64 r_Put_Bit)] (.bool y_3) []) ∧ ((True) ∧ (((True) ∧ (!y_3) = false) ∧ ((True) ∧ ((True) ∧ ((True) ∧ ((True) ∧ ((PureC Try.prog 78 [(.int .i64 r_Get_Bit)] (.bool y_4) []) ∧ ((True) ∧ ((True) ∧ (((True) ∧ (!y_4) = false) ∧ ((True) ∧ ((True) ∧ ((True) ∧ ((True) ∧ ((inR (IntKind.wrap .i64 (((r_Cells.length : Nat) : Int) - (1 : Int))) r_Cells.length) ∧ ((True) ∧ ((True) ∧ ((True) ∧ ((True) ∧ (((True) ∧ ((r_Cells.getD ((IntKind.wrap .i64 (((r_Cells.length : Nat) : Int) - (1 : Int))).toNat) ((0 : Int), ((0 : Int), false))).1 != (0 : Int)) = false) ∧ ((True) ∧ ((True) ∧ ((True) ∧ ((True) ∧ ((((True) ∧ ((True) ∧ (True))) ∧ PureC Try.prog 79 [(.int .i64 r_Put_At), (.pv (.int .i64 ((r_Cells.length : Nat) : Int)))] (.bool y_5) []) ∧ ((True) ∧ ((True) ∧ (((True) ∧ (!y_5) = false) ∧ ((True) ∧ ((True) ∧ ((True) ∧ ((True) ∧ ((((True) ∧ ((True) ∧ (True))) ∧ PureC Try.prog 79 [(.int .i64 r_Get_At), (.pv (.int .i64 ((r_Cells.length : Nat) : Int)))] (.bool y_6) []) ∧ ((True) ∧ ((True) ∧ (((True) ∧ (!y_6) = false) ∧ ((True) ∧ ((True) ∧ ((True) ∧ ((((True) ∧ ((True) ∧ (True))) ∧ PureC Try.prog 79 [(.int .i64 r_Seen), (.pv (.int .i64 ((r_Cells.length : Nat) : Int)))] (.bool y_7) []) ∧ ((True) ∧ ((True) ∧ (True))))))))))))))))))))))))))))))))))))))))))))))) := ⟨trivial, ⟨trivial, ⟨trivial, ⟨trivial, ⟨F78_ok n r_Put_Bit y_3 hx13, ⟨trivial, ⟨⟨trivial, c15⟩, ⟨trivial, ⟨trivial, ⟨trivial, ⟨trivial, ⟨F78_ok n r_Get_Bit y_4 hx16, ⟨trivial, ⟨trivial, ⟨⟨trivial, c18⟩, ⟨trivial, ⟨trivial, ⟨trivial, ⟨trivial, ⟨inb_ok t19, ⟨trivial, ⟨trivial, ⟨trivial, ⟨trivial, ⟨⟨trivial, c21⟩, ⟨trivial, ⟨trivial, ⟨trivial, ⟨trivial, ⟨⟨⟨trivial, ⟨trivial, trivial⟩⟩, F79_ok n r_Put_At ((r_Cells.length : Nat) : Int) y_5 hx22⟩, ⟨trivial, ⟨trivial, ⟨⟨trivial, c24⟩, ⟨trivial, ⟨trivial, ⟨trivial, ⟨trivial, ⟨⟨⟨trivial, ⟨trivial, trivial⟩⟩, F79_ok n r_Get_At ((r_Cells.length : Nat) : Int) y_6 hx25⟩, ⟨trivial, ⟨trivial, ⟨⟨trivial, c27⟩, ⟨trivial, ⟨trivial, ⟨trivial, ⟨⟨⟨trivial, ⟨trivial, trivial⟩⟩, F79_ok n r_Seen ((r_Cells.length : Nat) : Int) y_7 hx28⟩, ⟨trivial, ⟨trivial, trivial⟩⟩⟩⟩⟩⟩⟩⟩⟩⟩⟩⟩⟩⟩⟩⟩⟩⟩⟩⟩⟩⟩⟩⟩⟩⟩⟩⟩⟩⟩⟩⟩⟩⟩⟩⟩⟩⟩⟩⟩⟩⟩⟩⟩⟩⟩⟩
                    refine TS.reg [.none, .none, .none, .none, (.call (.bool y_3) []), .none, .dec false, .none, .none, .none, .none, (.call (.bool y_4) []), .none, .none, .dec false, .none, .none, .none, .none, .none, .none, .none, .none, .none, .dec false, .none, .none, .none, .none, (.call (.bool y_5) []), .none, .none, .dec false, .none, .none, .none, .none, (.call (.bool y_6) []), .none, .none, .dec false, .none, .none, .none, (.call (.bool y_7) [])] ?_ ?_
                    · apply prop_of ?_ hq
                      kernel_rfl
                    refine XS.then ?_
                    rcases bif_some h with ⟨c29, h⟩ | ⟨c30, h⟩
                    · refine TS.cond (!y_7) ?_ (fun e => ?_) (fun e => by rw [c29] at e; cases e)
                      · kernel_rfl
                      refine TS.seq ?_
                      have hq : (True) ∧ (True) := ⟨trivial, trivial⟩
                      refine TS.reg [] ?_ ?_
                      · apply prop_of ?_ hq
                        kernel_rfl
                      refine XS.then ?_
                      refine TS.ret ?_
                      refine XS.passR ?_
                      obtain rfl : (4 : Int) = r := Option.some.inj h
                      exact XS.fin [] ((True) ∧ (True)) (by kernel_rfl) ⟨trivial, trivial⟩
                    · refine TS.cond (!y_7) ?_ (fun e => by rw [c30] at e; cases e) (fun e => ?_)
                      · kernel_rfl
                      refine TS.skip ?_
                      refine XS.then ?_
                      refine TS.seq ?_
                      have hq : (True) ∧ (True) := ⟨trivial, trivial⟩
                      refine TS.reg [] ?_ ?_
                      · apply prop_of ?_ hq
                        kernel_rfl
                      refine XS.then ?_
                      refine TS.ret ?_
                      obtain rfl : (0 : Int) = r := Option.some.inj h
                      exact XS.fin [] ((True) ∧ (True)) (by kernel_rfl) ⟨trivial, trivial⟩

/-! plugtree/ring.advance -/
def F76 (n : Nat) (m_At : Int) (m_Bit : Int) (cells : Int) : Option (Int × Int) := (bif ((IntKind.wrap .i64 (m_At + (1 : Int))) == (IntKind.wrap .i64 (cells - (1 : Int)))) then (some ((0 : Int), (IntKind.wrap .i64 ((1 : Int) - m_Bit)))) else (some ((IntKind.wrap .i64 (m_At + (1 : Int))), m_Bit)))
theorem F76_ok (n : Nat) (m_At : Int) (m_Bit : Int) (cells : Int) (r : Int × Int) (h : F76 n m_At m_Bit cells = some r) : PureC Try.prog 76 [(.st (.cons (.int .i64 m_At) (.int .i64 m_Bit))), (.int .i64 cells)] (.st (.cons (.int .i64 r.1) (.int .i64 r.2))) [] := by
  refine PureC.mkS Try.func76 rfl rfl ?_
  intro w0 fz0 hfz
  replace h : (bif ((IntKind.wrap .i64 (m_At + (1 : Int))) == (IntKind.wrap .i64 (cells - (1 : Int)))) then (some ((0 : Int), (IntKind.wrap .i64 ((1 : Int) - m_Bit)))) else (some ((IntKind.wrap .i64 (m_At + (1 : Int))), m_Bit))) = some r := h
  refine TS.seq ?_
  have hq : (True) ∧ ((True) ∧ (True)) := ⟨trivial, ⟨trivial, trivial⟩⟩
  refine TS.reg [] ?_ ?_
  · apply prop_of ?_ hq
    kernel_rfl
  refine XS.then ?_
  refine TS.seq ?_
  refine TS.seq ?_
  have hq : (True) ∧ ((True) ∧ ((True) ∧ ((True) ∧ ((True) ∧ (True))))) := ⟨trivial, ⟨trivial, ⟨trivial, ⟨trivial, ⟨trivial, trivial⟩⟩⟩⟩⟩
  refine TS.reg [] ?_ ?_
  · apply prop_of ?_ hq
    kernel_rfl
  refine XS.then ?_
  refine TS.seq ?_
  have hq : (True) ∧ ((True) ∧ ((True) ∧ ((True) ∧ ((True) ∧ (True))))) := ⟨trivial, ⟨trivial, ⟨trivial, ⟨trivial, ⟨trivial, trivial⟩⟩⟩⟩⟩
  refine TS.reg [] ?_ ?_
  · apply prop_of ?_ hq
    kernel_rfl
  refine XS.then ?_
  rcases bif_some h with ⟨c1, h⟩ | ⟨c2, h⟩
  · refine TS.cond ((IntKind.wrap .i64 (m_At + (1 : Int))) == (IntKind.wrap .i64 (cells - (1 : Int)))) ?_ (fun e => ?_) (fun e => by rw [c1] at e; cases e)
    · kernel_rfl
    refine TS.seq ?_
    have hq : (True) ∧ ((True) ∧ ((True) ∧ (((True) ∧ ((True) ∧ (True))) ∧ ((True) ∧ (True))))) := ⟨trivial, ⟨trivial, ⟨trivial, ⟨⟨trivial, ⟨trivial, trivial⟩⟩, ⟨trivial, trivial⟩⟩⟩⟩⟩
    refine TS.reg [] ?_ ?_
    · apply prop_of ?_ hq
      kernel_rfl
    refine XS.then ?_
    refine TS.ret ?_
    refine XS.passR ?_
    obtain rfl : ((0 : Int), (IntKind.wrap .i64 ((1 : Int) - m_Bit))) = r := Option.some.inj h
    exact XS.fin [] ((True) ∧ (True)) (by kernel_rfl) ⟨trivial, trivial⟩
  · refine TS.cond ((IntKind.wrap .i64 (m_At + (1 : Int))) == (IntKind.wrap .i64 (cells - (1 : Int)))) ?_ (fun e => by rw [c2] at e; cases e) (fun e => ?_)
    · kernel_rfl
    refine TS.skip ?_
    refine XS.then ?_
    refine TS.seq ?_
    have hq : (True) ∧ ((True) ∧ (True)) := ⟨trivial, ⟨trivial, trivial⟩⟩
    refine TS.reg [] ?_ ?_
    · apply prop_of ?_ hq
      kernel_rfl
    refine XS.then ?_
    refine TS.ret ?_
    obtain rfl : ((IntKind.wrap .i64 (m_At + (1 : Int))), m_Bit) = r := Option.some.inj h
    exact XS.fin [] ((True) ∧ (True)) (by kernel_rfl) ⟨trivial, trivial⟩

/-! slices.Clone[[]plugtree/api.Cell,plugtree/api.Cell] -/
def F95 (n : Nat) (s : List (Int × Int × Bool)) : Option (List (Int × Int × Bool)) := (bif (decide (([] : List (Int × Int × Bool)).length + s.length ≤ 17179869184)) then (some (([] : List (Int × Int × Bool)) ++ s)) else none)
theorem F95_ok (n : Nat) (s : List (Int × Int × Bool)) (r : List (Int × Int × Bool)) (h : F95 n s = some r) : PureC Try.prog 95 [(.sl (.st (.pair (.int .u64) (.pair (.int .i64) .bool))) s)] (.row 0) [(.row 75 (.st (.pair (.int .u64) (.pair (.int .i64) .bool))) r)] := by
  refine PureC.mkS Try.func95 rfl rfl ?_
  intro w0 fz0 hfz
  replace h : (bif (decide (([] : List (Int × Int × Bool)).length + s.length ≤ 17179869184)) then (some (([] : List (Int × Int × Bool)) ++ s)) else none) = some r := h
  refine TS.seq ?_
  have hq : (True) ∧ (True) := ⟨trivial, trivial⟩
  refine TS.reg [] ?_ ?_
  · apply prop_of ?_ hq
    kernel_rfl
  refine XS.then ?_
  refine TS.seq ?_
  refine TS.seq ?_
  have hq : (True) ∧ (True) := ⟨trivial, trivial⟩
  refine TS.nilReg 1 [] (.st (.pair (.int .u64) (.pair (.int .i64) .bool))) s ?_ (by kernel_rfl) ?_
  · apply prop_of ?_ hq
    kernel_rfl
  · intro b2 hb4
    cases b2
    · clear hb4
      refine XS.then ?_
      refine TS.no ?_ ?_
      · kernel_rfl
      refine TS.skip ?_
      refine XS.then ?_
      refine TS.seq ?_
      obtain ⟨t1, h⟩ := test_some h
      have hq : (True) ∧ ((True) ∧ ((([] : List (Int × Int × Bool)).length + s.length ≤ 17179869184) ∧ ((True) ∧ (True)))) := ⟨trivial, ⟨trivial, ⟨of_decide_eq_true t1, ⟨trivial, trivial⟩⟩⟩⟩
      refine TS.reg [] ?_ ?_
      · apply prop_of ?_ hq
        kernel_rfl
      refine XS.then ?_
      refine TS.ret ?_
      obtain rfl : (([] : List (Int × Int × Bool)) ++ s) = r := Option.some.inj h
      exact XS.fin [1] ((True) ∧ (True)) (by kernel_rfl) ⟨trivial, trivial⟩
    · have e3 := hb4 rfl
      replace h : (some ([] : List (Int × Int × Bool))) = some r := by first | exact h | (rw [e3] at h ⊢; exact h) | simpa [e3] using h
      refine XS.then ?_
      refine TS.yes ?_ ?_
      · kernel_rfl
      refine TS.seq ?_
      have hq : (True) ∧ (True) := ⟨trivial, trivial⟩
      refine TS.reg [] ?_ ?_
      · apply prop_of ?_ hq
        kernel_rfl
      refine XS.then ?_
      refine TS.ret ?_
      refine XS.passR ?_
      obtain rfl : ([] : List (Int × Int × Bool)) = r := Option.some.inj h
      refine XS.wk (.row false 2 [] 75 (.st (.pair (.int .u64) (.pair (.int .i64) .bool)))) ?_
      exact XS.fin [0] ((True) ∧ (True)) (by kernel_rfl) ⟨trivial, trivial⟩

/-! plugtree/ring.copied -/
def F77 (n : Nat) (r_Cells : List (Int × Int × Bool)) (r_Put_At : Int) (r_Put_Bit : Int) (r_Get_At : Int) (r_Get_Bit : Int) (r_Seen : Int) : Option (Int × Int × Int × Int × Int × (List (Int × Int × Bool))) := ((F95 n r_Cells).bind fun y_7 => (some (r_Put_At, r_Put_Bit, r_Get_At, r_Get_Bit, r_Seen, y_7)))
theorem F77_ok (n : Nat) (r_Cells : List (Int × Int × Bool)) (r_Put_At : Int) (r_Put_Bit : Int) (r_Get_At : Int) (r_Get_Bit : Int) (r_Seen : Int) (r : Int × Int × Int × Int × Int × (List (Int × Int × Bool))) (h : F77 n r_Cells r_Put_At r_Put_Bit r_Get_At r_Get_Bit r_Seen = some r) : PureC Try.prog 77 [(.st (.cons (.sl (.st (.pair (.int .u64) (.pair (.int .i64) .bool))) r_Cells) (.cons (.st (.cons (.int .i64 r_Put_At) (.int .i64 r_Put_Bit))) (.cons (.st (.cons (.int .i64 r_Get_At) (.int .i64 r_Get_Bit))) (.int .i64 r_Seen)))))] (.st (.cons (.row 0) (.cons (.st (.cons (.int .i64 r.1) (.int .i64 r.2.1))) (.cons (.st (.cons (.int .i64 r.2.2.1) (.int .i64 r.2.2.2.1))) (.int .i64 r.2.2.2.2.1))))) [(.row 75 (.st (.pair (.int .u64) (.pair (.int .i64) .bool))) r.2.2.2.2.2)] := by
  refine PureC.mkS Try.func77 rfl rfl ?_
  intro w0 fz0 hfz
  replace h : ((F95 n r_Cells).bind fun y_7 => (some (r_Put_At, r_Put_Bit, r_Get_At, r_Get_Bit, r_Seen, y_7))) = some r := h
  refine TS.seq ?_
  have hq : (True) ∧ ((True) ∧ (True)) := ⟨trivial, ⟨trivial, trivial⟩⟩
  refine TS.reg [] ?_ ?_
  · apply prop_of ?_ hq
    kernel_rfl
  refine XS.then ?_
  refine TS.seq ?_
  obtain ⟨y_7, hx1, h⟩ := bind_some' h
  have hq : (True) ∧ ((True) ∧ ((PureC Try.prog 95 [(.sl (.st (.pair (.int .u64) (.pair (.int .i64) .bool))) r_Cells)] (.row 0) [(.row 75 (.st (.pair (.int .u64) (.pair (.int .i64) .bool))) y_7)]) ∧ ((True) ∧ ((True) ∧ (True))))) := ⟨trivial, ⟨trivial, ⟨F95_ok n r_Cells y_7 hx1, ⟨trivial, ⟨trivial, trivial⟩⟩⟩⟩⟩
  refine TS.reg [.none, .none, (.call (.row 0) [(.row 75 (.st (.pair (.int .u64) (.pair (.int .i64) .bool))) y_7)])] ?_ ?_
  · apply prop_of ?_ hq
    kernel_rfl
  refine XS.then ?_
  refine TS.seq ?_
  have hq : (True) ∧ ((True) ∧ (True)) := ⟨trivial, ⟨trivial, trivial⟩⟩
  refine TS.reg [] ?_ ?_
  · apply prop_of ?_ hq
    kernel_rfl
  refine XS.then ?_
  refine TS.ret ?_
  obtain rfl : (r_Put_At, r_Put_Bit, r_Get_At, r_Get_Bit, r_Seen, y_7) = r := Option.some.inj h
  exact XS.fin [2] ((True) ∧ (True)) (by kernel_rfl) ⟨trivial, trivial⟩

/-! plugtree/ring.Put -/
def F34_j2 (n : Nat) (y_9 : Int × Int) (y_10 : Int × Int × Int × Int × Int × (List (Int × Int × Bool))) : (List (Int × Int × Bool)) → Option (Int × Int × Int × Int × Int × Int × (List (Int × Int × Bool)))
  | m1 => (some (y_9.1, y_9.2, y_10.2.2.1, y_10.2.2.2.1, y_10.2.2.2.2.1, (0 : Int), m1))
def F34 (n : Nat) (r_Cells : List (Int × Int × Bool)) (r_Put_At : Int) (r_Put_Bit : Int) (r_Get_At : Int) (r_Get_Bit : Int) (r_Seen : Int) (word : Int) : Option (Int × Int × Int × Int × Int × Int × (List (Int × Int × Bool))) := ((F36 n r_Cells r_Put_At r_Put_Bit r_Get_At r_Get_Bit r_Seen).bind fun y_8 => (bif (y_8 != (0 : Int)) then (some ((0 : Int), (0 : Int), (0 : Int), (0 : Int), (0 : Int), y_8, ([] : List (Int × Int × Bool)))) else ((F76 n r_Put_At r_Put_Bit ((r_Cells.length : Nat) : Int)).bind fun y_9 => (bif (y_9.1 == r_Seen) then (some ((0 : Int), (0 : Int), (0 : Int), (0 : Int), (0 : Int), (11 : Int), ([] : List (Int × Int × Bool)))) else ((F77 n r_Cells r_Put_At r_Put_Bit r_Get_At r_Get_Bit r_Seen).bind fun y_10 => (bif inb y_10.1 y_10.2.2.2.2.2.length then (bif inb y_10.1 ((y_10.2.2.2.2.2.set y_10.1.toNat (word, ((y_10.2.2.2.2.2.getD y_10.1.toNat ((0 : Int), ((0 : Int), false))).2.1, (y_10.2.2.2.2.2.getD y_10.1.toNat ((0 : Int), ((0 : Int), false))).2.2))).length) then (bif (y_10.1 == (IntKind.wrap .i64 (((r_Cells.length : Nat) : Int) - (2 : Int)))) then (bif inb (IntKind.wrap .i64 (((r_Cells.length : Nat) : Int) - (1 : Int))) (((y_10.2.2.2.2.2.set y_10.1.toNat (word, ((y_10.2.2.2.2.2.getD y_10.1.toNat ((0 : Int), ((0 : Int), false))).2.1, (y_10.2.2.2.2.2.getD y_10.1.toNat ((0 : Int), ((0 : Int), false))).2.2))).set y_10.1.toNat (((y_10.2.2.2.2.2.set y_10.1.toNat (word, ((y_10.2.2.2.2.2.getD y_10.1.toNat ((0 : Int), ((0 : Int), false))).2.1, (y_10.2.2.2.2.2.getD y_10.1.toNat ((0 : Int), ((0 : Int), false))).2.2))).getD y_10.1.toNat ((0 : Int), ((0 : Int), false))).1, (y_10.2.1, ((y_10.2.2.2.2.2.set y_10.1.toNat (word, ((y_10.2.2.2.2.2.getD y_10.1.toNat ((0 : Int), ((0 : Int), false))).2.1, (y_10.2.2.2.2.2.getD y_10.1.toNat ((0 : Int), ((0 : Int), false))).2.2))).getD y_10.1.toNat ((0 : Int), ((0 : Int), false))).2.2))).length) then (F34_j2 n y_9 y_10 (((y_10.2.2.2.2.2.set y_10.1.toNat (word, ((y_10.2.2.2.2.2.getD y_10.1.toNat ((0 : Int), ((0 : Int), false))).2.1, (y_10.2.2.2.2.2.getD y_10.1.toNat ((0 : Int), ((0 : Int), false))).2.2))).set y_10.1.toNat (((y_10.2.2.2.2.2.set y_10.1.toNat (word, ((y_10.2.2.2.2.2.getD y_10.1.toNat ((0 : Int), ((0 : Int), false))).2.1, (y_10.2.2.2.2.2.getD y_10.1.toNat ((0 : Int), ((0 : Int), false))).2.2))).getD y_10.1.toNat ((0 : Int), ((0 : Int), false))).1, (y_10.2.1, ((y_10.2.2.2.2.2.set y_10.1.toNat (word, ((y_10.2.2.2.2.2.getD y_10.1.toNat ((0 : Int), ((0 : Int), false))).2.1, (y_10.2.2.2.2.2.getD y_10.1.toNat ((0 : Int), ((0 : Int), false))).2.2))).getD y_10.1.toNat ((0 : Int), ((0 : Int), false))).2.2))).set ((IntKind.wrap .i64 (((r_Cells.length : Nat) : Int) - (1 : Int))).toNat) ((((y_10.2.2.2.2.2.set y_10.1.toNat (word, ((y_10.2.2.2.2.2.getD y_10.1.toNat ((0 : Int), ((0 : Int), false))).2.1, (y_10.2.2.2.2.2.getD y_10.1.toNat ((0 : Int), ((0 : Int), false))).2.2))).set y_10.1.toNat (((y_10.2.2.2.2.2.set y_10.1.toNat (word, ((y_10.2.2.2.2.2.getD y_10.1.toNat ((0 : Int), ((0 : Int), false))).2.1, (y_10.2.2.2.2.2.getD y_10.1.toNat ((0 : Int), ((0 : Int), false))).2.2))).getD y_10.1.toNat ((0 : Int), ((0 : Int), false))).1, (y_10.2.1, ((y_10.2.2.2.2.2.set y_10.1.toNat (word, ((y_10.2.2.2.2.2.getD y_10.1.toNat ((0 : Int), ((0 : Int), false))).2.1, (y_10.2.2.2.2.2.getD y_10.1.toNat ((0 : Int), ((0 : Int), false))).2.2))).getD y_10.1.toNat ((0 : Int), ((0 : Int), false))).2.2))).getD ((IntKind.wrap .i64 (((r_Cells.length : Nat) : Int) - (1 : Int))).toNat) ((0 : Int), ((0 : Int), false))).1, (y_10.2.1, (((y_10.2.2.2.2.2.set y_10.1.toNat (word, ((y_10.2.2.2.2.2.getD y_10.1.toNat ((0 : Int), ((0 : Int), false))).2.1, (y_10.2.2.2.2.2.getD y_10.1.toNat ((0 : Int), ((0 : Int), false))).2.2))).set y_10.1.toNat (((y_10.2.2.2.2.2.set y_10.1.toNat (word, ((y_10.2.2.2.2.2.getD y_10.1.toNat ((0 : Int), ((0 : Int), false))).2.1, (y_10.2.2.2.2.2.getD y_10.1.toNat ((0 : Int), ((0 : Int), false))).2.2))).getD y_10.1.toNat ((0 : Int), ((0 : Int), false))).1, (y_10.2.1, ((y_10.2.2.2.2.2.set y_10.1.toNat (word, ((y_10.2.2.2.2.2.getD y_10.1.toNat ((0 : Int), ((0 : Int), false))).2.1, (y_10.2.2.2.2.2.getD y_10.1.toNat ((0 : Int), ((0 : Int), false))).2.2))).getD y_10.1.toNat ((0 : Int), ((0 : Int), false))).2.2))).getD ((IntKind.wrap .i64 (((r_Cells.length : Nat) : Int) - (1 : Int))).toNat) ((0 : Int), ((0 : Int), false))).2.2)))) else none) else (F34_j2 n y_9 y_10 ((y_10.2.2.2.2.2.set y_10.1.toNat (word, ((y_10.2.2.2.2.2.getD y_10.1.toNat ((0 : Int), ((0 : Int), false))).2.1, (y_10.2.2.2.2.2.getD y_10.1.toNat ((0 : Int), ((0 : Int), false))).2.2))).set y_10.1.toNat (((y_10.2.2.2.2.2.set y_10.1.toNat (word, ((y_10.2.2.2.2.2.getD y_10.1.toNat ((0 : Int), ((0 : Int), false))).2.1, (y_10.2.2.2.2.2.getD y_10.1.toNat ((0 : Int), ((0 : Int), false))).2.2))).getD y_10.1.toNat ((0 : Int), ((0 : Int), false))).1, (y_10.2.1, ((y_10.2.2.2.2.2.set y_10.1.toNat (word, ((y_10.2.2.2.2.2.getD y_10.1.toNat ((0 : Int), ((0 : Int), false))).2.1, (y_10.2.2.2.2.2.getD y_10.1.toNat ((0 : Int), ((0 : Int), false))).2.2))).getD y_10.1.toNat ((0 : Int), ((0 : Int), false))).2.2))))) else none) else none))))))
theorem F34_ok (n : Nat) (r_Cells : List (Int × Int × Bool)) (r_Put_At : Int) (r_Put_Bit : Int) (r_Get_At : Int) (r_Get_Bit : Int) (r_Seen : Int) (word : Int) (r : Int × Int × Int × Int × Int × Int × (List (Int × Int × Bool))) (h : F34 n r_Cells r_Put_At r_Put_Bit r_Get_At r_Get_Bit r_Seen word = some r) : PureC Try.prog 34 [(.st (.cons (.sl (.st (.pair (.int .u64) (.pair (.int .i64) .bool))) r_Cells) (.cons (.st (.cons (.int .i64 r_Put_At) (.int .i64 r_Put_Bit))) (.cons (.st (.cons (.int .i64 r_Get_At) (.int .i64 r_Get_Bit))) (.int .i64 r_Seen))))), (.int .u64 word)] (.tup (.cons (.st (.cons (.row 0) (.cons (.st (.cons (.int .i64 r.1) (.int .i64 r.2.1))) (.cons (.st (.cons (.int .i64 r.2.2.1) (.int .i64 r.2.2.2.1))) (.int .i64 r.2.2.2.2.1))))) (.cons (.int .i64 r.2.2.2.2.2.1) .nil))) [(.row 75 (.st (.pair (.int .u64) (.pair (.int .i64) .bool))) r.2.2.2.2.2.2)] := by
  refine PureC.mkS Try.func34 rfl rfl ?_
  intro w0 fz0 hfz
  replace h : ((F36 n r_Cells r_Put_At r_Put_Bit r_Get_At r_Get_Bit r_Seen).bind fun y_8 => (bif (y_8 != (0 : Int)) then (some ((0 : Int), (0 : Int), (0 : Int), (0 : Int), (0 : Int), y_8, ([] : List (Int × Int × Bool)))) else ((F76 n r_Put_At r_Put_Bit ((r_Cells.length : Nat) : Int)).bind fun y_9 => (bif (y_9.1 == r_Seen) then (some ((0 : Int), (0 : Int), (0 : Int), (0 : Int), (0 : Int), (11 : Int), ([] : List (Int × Int × Bool)))) else ((F77 n r_Cells r_Put_At r_Put_Bit r_Get_At r_Get_Bit r_Seen).bind fun y_10 => (bif inb y_10.1 y_10.2.2.2.2.2.length then (bif inb y_10.1 ((y_10.2.2.2.2.2.set y_10.1.toNat (word, ((y_10.2.2.2.2.2.getD y_10.1.toNat ((0 : Int), ((0 : Int), false))).2.1, (y_10.2.2.2.2.2.getD y_10.1.toNat ((0 : Int), ((0 : Int), false))).2.2))).length) then (bif (y_10.1 == (IntKind.wrap .i64 (((r_Cells.length : Nat) : Int) - (2 : Int)))) then (bif inb (IntKind.wrap .i64 (((r_Cells.length : Nat) : Int) - (1 : Int))) (((y_10.2.2.2.2.2.set y_10.1.toNat (word, ((y_10.2.2.2.2.2.getD y_10.1.toNat ((0 : Int), ((0 : Int), false))).2.1, (y_10.2.2.2.2.2.getD y_10.1.toNat ((0 : Int), ((0 : Int), false))).2.2))).set y_10.1.toNat (((y_10.2.2.2.2.2.set y_10.1.toNat (word, ((y_10.2.2.2.2.2.getD y_10.1.toNat ((0 : Int), ((0 : Int), false))).2.1, (y_10.2.2.2.2.2.getD y_10.1.toNat ((0 : Int), ((0 : Int), false))).2.2))).getD y_10.1.toNat ((0 : Int), ((0 : Int), false))).1, (y_10.2.1, ((y_10.2.2.2.2.2.set y_10.1.toNat (word, ((y_10.2.2.2.2.2.getD y_10.1.toNat ((0 : Int), ((0 : Int), false))).2.1, (y_10.2.2.2.2.2.getD y_10.1.toNat ((0 : Int), ((0 : Int), false))).2.2))).getD y_10.1.toNat ((0 : Int), ((0 : Int), false))).2.2))).length) then (F34_j2 n y_9 y_10 (((y_10.2.2.2.2.2.set y_10.1.toNat (word, ((y_10.2.2.2.2.2.getD y_10.1.toNat ((0 : Int), ((0 : Int), false))).2.1, (y_10.2.2.2.2.2.getD y_10.1.toNat ((0 : Int), ((0 : Int), false))).2.2))).set y_10.1.toNat (((y_10.2.2.2.2.2.set y_10.1.toNat (word, ((y_10.2.2.2.2.2.getD y_10.1.toNat ((0 : Int), ((0 : Int), false))).2.1, (y_10.2.2.2.2.2.getD y_10.1.toNat ((0 : Int), ((0 : Int), false))).2.2))).getD y_10.1.toNat ((0 : Int), ((0 : Int), false))).1, (y_10.2.1, ((y_10.2.2.2.2.2.set y_10.1.toNat (word, ((y_10.2.2.2.2.2.getD y_10.1.toNat ((0 : Int), ((0 : Int), false))).2.1, (y_10.2.2.2.2.2.getD y_10.1.toNat ((0 : Int), ((0 : Int), false))).2.2))).getD y_10.1.toNat ((0 : Int), ((0 : Int), false))).2.2))).set ((IntKind.wrap .i64 (((r_Cells.length : Nat) : Int) - (1 : Int))).toNat) ((((y_10.2.2.2.2.2.set y_10.1.toNat (word, ((y_10.2.2.2.2.2.getD y_10.1.toNat ((0 : Int), ((0 : Int), false))).2.1, (y_10.2.2.2.2.2.getD y_10.1.toNat ((0 : Int), ((0 : Int), false))).2.2))).set y_10.1.toNat (((y_10.2.2.2.2.2.set y_10.1.toNat (word, ((y_10.2.2.2.2.2.getD y_10.1.toNat ((0 : Int), ((0 : Int), false))).2.1, (y_10.2.2.2.2.2.getD y_10.1.toNat ((0 : Int), ((0 : Int), false))).2.2))).getD y_10.1.toNat ((0 : Int), ((0 : Int), false))).1, (y_10.2.1, ((y_10.2.2.2.2.2.set y_10.1.toNat (word, ((y_10.2.2.2.2.2.getD y_10.1.toNat ((0 : Int), ((0 : Int), false))).2.1, (y_10.2.2.2.2.2.getD y_10.1.toNat ((0 : Int), ((0 : Int), false))).2.2))).getD y_10.1.toNat ((0 : Int), ((0 : Int), false))).2.2))).getD ((IntKind.wrap .i64 (((r_Cells.length : Nat) : Int) - (1 : Int))).toNat) ((0 : Int), ((0 : Int), false))).1, (y_10.2.1, (((y_10.2.2.2.2.2.set y_10.1.toNat (word, ((y_10.2.2.2.2.2.getD y_10.1.toNat ((0 : Int), ((0 : Int), false))).2.1, (y_10.2.2.2.2.2.getD y_10.1.toNat ((0 : Int), ((0 : Int), false))).2.2))).set y_10.1.toNat (((y_10.2.2.2.2.2.set y_10.1.toNat (word, ((y_10.2.2.2.2.2.getD y_10.1.toNat ((0 : Int), ((0 : Int), false))).2.1, (y_10.2.2.2.2.2.getD y_10.1.toNat ((0 : Int), ((0 : Int), false))).2.2))).getD y_10.1.toNat ((0 : Int), ((0 : Int), false))).1, (y_10.2.1, ((y_10.2.2.2.2.2.set y_10.1.toNat (word, ((y_10.2.2.2.2.2.getD y_10.1.toNat ((0 : Int), ((0 : Int), false))).2.1, (y_10.2.2.2.2.2.getD y_10.1.toNat ((0 : Int), ((0 : Int), false))).2.2))).getD y_10.1.toNat ((0 : Int), ((0 : Int), false))).2.2))).getD ((IntKind.wrap .i64 (((r_Cells.length : Nat) : Int) - (1 : Int))).toNat) ((0 : Int), ((0 : Int), false))).2.2)))) else none) else (F34_j2 n y_9 y_10 ((y_10.2.2.2.2.2.set y_10.1.toNat (word, ((y_10.2.2.2.2.2.getD y_10.1.toNat ((0 : Int), ((0 : Int), false))).2.1, (y_10.2.2.2.2.2.getD y_10.1.toNat ((0 : Int), ((0 : Int), false))).2.2))).set y_10.1.toNat (((y_10.2.2.2.2.2.set y_10.1.toNat (word, ((y_10.2.2.2.2.2.getD y_10.1.toNat ((0 : Int), ((0 : Int), false))).2.1, (y_10.2.2.2.2.2.getD y_10.1.toNat ((0 : Int), ((0 : Int), false))).2.2))).getD y_10.1.toNat ((0 : Int), ((0 : Int), false))).1, (y_10.2.1, ((y_10.2.2.2.2.2.set y_10.1.toNat (word, ((y_10.2.2.2.2.2.getD y_10.1.toNat ((0 : Int), ((0 : Int), false))).2.1, (y_10.2.2.2.2.2.getD y_10.1.toNat ((0 : Int), ((0 : Int), false))).2.2))).getD y_10.1.toNat ((0 : Int), ((0 : Int), false))).2.2))))) else none) else none)))))) = some r := h
  refine TS.seq ?_
  have hq : (True) ∧ ((True) ∧ ((True) ∧ (True))) := ⟨trivial, ⟨trivial, ⟨trivial, trivial⟩⟩⟩
  refine TS.reg [] ?_ ?_
  · apply prop_of ?_ hq
    kernel_rfl
  refine XS.then ?_
  refine TS.seq ?_
  refine TS.seq ?_
  obtain ⟨y_8, hx1, h⟩ := bind_some' h
  have hq : (True) ∧ ((PureC Try.prog 36 [(.st (.cons (.sl (.st (.pair (.int .u64) (.pair (.int .i64) .bool))) r_Cells) (.cons (.st (.cons (.int .i64 r_Put_At) (.int .i64 r_Put_Bit))) (.cons (.st (.cons (.int .i64 r_Get_At) (.int .i64 r_Get_Bit))) (.int .i64 r_Seen)))))] (.int .i64 y_8) []) ∧ ((True) ∧ (True))) := ⟨trivial, ⟨F36_ok n r_Cells r_Put_At r_Put_Bit r_Get_At r_Get_Bit r_Seen y_8 hx1, ⟨trivial, trivial⟩⟩⟩
  refine TS.reg [.none, (.call (.int .i64 y_8) [])] ?_ ?_
  · apply prop_of ?_ hq
    kernel_rfl
  refine XS.then ?_
  refine TS.seq ?_
  have hq : (True) ∧ ((True) ∧ (True)) := ⟨trivial, ⟨trivial, trivial⟩⟩
  refine TS.reg [] ?_ ?_
  · apply prop_of ?_ hq
    kernel_rfl
  refine XS.then ?_
  rcases bif_some h with ⟨c2, h⟩ | ⟨c3, h⟩
  · refine TS.cond (y_8 != (0 : Int)) ?_ (fun e => ?_) (fun e => by rw [c2] at e; cases e)
    · kernel_rfl
    refine TS.seq ?_
    have hq : (True) ∧ ((True) ∧ ((True) ∧ ((True) ∧ (True)))) := ⟨trivial, ⟨trivial, ⟨trivial, ⟨trivial, trivial⟩⟩⟩⟩
    refine TS.reg [] ?_ ?_
    · apply prop_of ?_ hq
      kernel_rfl
    refine XS.then ?_
    refine TS.ret ?_
    refine XS.passR ?_
    obtain rfl : ((0 : Int), (0 : Int), (0 : Int), (0 : Int), (0 : Int), y_8, ([] : List (Int × Int × Bool))) = r := Option.some.inj h
    refine XS.wk (.row true 1 [false] 75 (.st (.pair (.int .u64) (.pair (.int .i64) .bool)))) ?_
    exact XS.fin [2] ((True) ∧ ((True) ∧ (True))) (by kernel_rfl) ⟨trivial, ⟨trivial, trivial⟩⟩
  · refine TS.cond (y_8 != (0 : Int)) ?_ (fun e => by rw [c3] at e; cases e) (fun e => ?_)
    · kernel_rfl
    refine TS.skip ?_
    refine XS.then ?_
    refine TS.seq ?_
    have hq : (True) ∧ ((True) ∧ ((True) ∧ ((True) ∧ (True)))) := ⟨trivial, ⟨trivial, ⟨trivial, ⟨trivial, trivial⟩⟩⟩⟩
    refine TS.reg [] ?_ ?_
    · apply prop_of ?_ hq
      kernel_rfl
    refine XS.then ?_
    refine TS.seq ?_
    obtain ⟨y_9, hx4, h⟩ := bind_some' h
    have hq : (True) ∧ ((True) ∧ ((True) ∧ ((PureC Try.prog 76 [(.st (.cons (.int .i64 r_Put_At) (.int .i64 r_Put_Bit))), (.int .i64 ((r_Cells.length : Nat) : Int))] (.st (.cons (.int .i64 y_9.1) (.int .i64 y_9.2))) []) ∧ ((True) ∧ ((True) ∧ (True)))))) := ⟨trivial, ⟨trivial, ⟨trivial, ⟨F76_ok n r_Put_At r_Put_Bit ((r_Cells.length : Nat) : Int) y_9 hx4, ⟨trivial, ⟨trivial, trivial⟩⟩⟩⟩⟩⟩
    refine TS.reg [.none, .none, .none, (.call (.st (.cons (.int .i64 y_9.1) (.int .i64 y_9.2))) [])] ?_ ?_
    · apply prop_of ?_ hq
      kernel_rfl
    refine XS.then ?_
    refine TS.seq ?_
    refine TS.seq ?_
    have hq : (True) ∧ ((True) ∧ ((True) ∧ ((True) ∧ ((True) ∧ (True))))) := ⟨trivial, ⟨trivial, ⟨trivial, ⟨trivial, ⟨trivial, trivial⟩⟩⟩⟩⟩
    refine TS.reg [] ?_ ?_
    · apply prop_of ?_ hq
      kernel_rfl
    refine XS.then ?_
    rcases bif_some h with ⟨c5, h⟩ | ⟨c6, h⟩
    · refine TS.cond (y_9.1 == r_Seen) ?_ (fun e => ?_) (fun e => by rw [c5] at e; cases e)
      · kernel_rfl
      refine TS.seq ?_
      have hq : (True) ∧ ((True) ∧ ((True) ∧ (True))) := ⟨trivial, ⟨trivial, ⟨trivial, trivial⟩⟩⟩
      refine TS.reg [] ?_ ?_
      · apply prop_of ?_ hq
        kernel_rfl
      refine XS.then ?_
      refine TS.ret ?_
      refine XS.passR ?_
      obtain rfl : ((0 : Int), (0 : Int), (0 : Int), (0 : Int), (0 : Int), (11 : Int), ([] : List (Int × Int × Bool))) = r := Option.some.inj h
      refine XS.wk (.row true 1 [false] 75 (.st (.pair (.int .u64) (.pair (.int .i64) .bool)))) ?_
      exact XS.fin [3] ((True) ∧ ((True) ∧ (True))) (by kernel_rfl) ⟨trivial, ⟨trivial, trivial⟩⟩
    · refine TS.cond (y_9.1 == r_Seen) ?_ (fun e => by rw [c6] at e; cases e) (fun e => ?_)
      · kernel_rfl
      refine TS.skip ?_
      refine XS.then ?_
      refine TS.seq ?_
      obtain ⟨y_10, hx7, h⟩ := bind_some' h
      have hq : (True) ∧ ((PureC Try.prog 77 [(.st (.cons (.sl (.st (.pair (.int .u64) (.pair (.int .i64) .bool))) r_Cells) (.cons (.st (.cons (.int .i64 r_Put_At) (.int .i64 r_Put_Bit))) (.cons (.st (.cons (.int .i64 r_Get_At) (.int .i64 r_Get_Bit))) (.int .i64 r_Seen)))))] (.st (.cons (.row 0) (.cons (.st (.cons (.int .i64 y_10.1) (.int .i64 y_10.2.1))) (.cons (.st (.cons (.int .i64 y_10.2.2.1) (.int .i64 y_10.2.2.2.1))) (.int .i64 y_10.2.2.2.2.1))))) [(.row 75 (.st (.pair (.int .u64) (.pair (.int .i64) .bool))) y_10.2.2.2.2.2)]) ∧ ((True) ∧ (True))) := ⟨trivial, ⟨F77_ok n r_Cells r_Put_At r_Put_Bit r_Get_At r_Get_Bit r_Seen y_10 hx7, ⟨trivial, trivial⟩⟩⟩
      refine TS.reg [.none, (.call (.st (.cons (.row 0) (.cons (.st (.cons (.int .i64 y_10.1) (.int .i64 y_10.2.1))) (.cons (.st (.cons (.int .i64 y_10.2.2.1) (.int .i64 y_10.2.2.2.1))) (.int .i64 y_10.2.2.2.2.1))))) [(.row 75 (.st (.pair (.int .u64) (.pair (.int .i64) .bool))) y_10.2.2.2.2.2)])] ?_ ?_
      · apply prop_of ?_ hq
        kernel_rfl
      refine XS.then ?_
      refine TS.seq ?_
      obtain ⟨t8, h⟩ := test_some h
      have hq : (True) ∧ ((True) ∧ ((True) ∧ ((True) ∧ ((True) ∧ ((inR y_10.1 y_10.2.2.2.2.2.length) ∧ ((True) ∧ (True))))))) := ⟨trivial, ⟨trivial, ⟨trivial, ⟨trivial, ⟨trivial, ⟨inb_ok t8, ⟨trivial, trivial⟩⟩⟩⟩⟩⟩⟩
      refine TS.reg [] ?_ ?_
      · apply prop_of ?_ hq
        kernel_rfl
      refine XS.then ?_
      refine TS.seq ?_
      obtain ⟨t9, h⟩ := test_some h
      have hq : ((True) ∧ ((True) ∧ ((True) ∧ ((True) ∧ ((True) ∧ ((True) ∧ ((True) ∧ ((True) ∧ (((y_10.1.toNat < y_10.2.2.2.2.2.length ∧ (True)) ∧ y_10.2.2.2.2.2.length = y_10.2.2.2.2.2.length) ∧ ((True) ∧ ((True) ∧ (True)))))))))))) ∧ (((y_10.1.toNat < (y_10.2.2.2.2.2.set y_10.1.toNat (word, ((y_10.2.2.2.2.2.getD y_10.1.toNat ((0 : Int), ((0 : Int), false))).2.1, (y_10.2.2.2.2.2.getD y_10.1.toNat ((0 : Int), ((0 : Int), false))).2.2))).length ∧ (True)) ∧ (y_10.2.2.2.2.2.set y_10.1.toNat (word, ((y_10.2.2.2.2.2.getD y_10.1.toNat ((0 : Int), ((0 : Int), false))).2.1, (y_10.2.2.2.2.2.getD y_10.1.toNat ((0 : Int), ((0 : Int), false))).2.2))).length = (y_10.2.2.2.2.2.set y_10.1.toNat (word, ((y_10.2.2.2.2.2.getD y_10.1.toNat ((0 : Int), ((0 : Int), false))).2.1, (y_10.2.2.2.2.2.getD y_10.1.toNat ((0 : Int), ((0 : Int), false))).2.2))).length) ∧ (True)) := ⟨⟨trivial, ⟨trivial, ⟨trivial, ⟨trivial, ⟨trivial, ⟨trivial, ⟨trivial, ⟨trivial, ⟨⟨⟨inR_lt (inb_ok t8), trivial⟩, rfl⟩, ⟨trivial, ⟨trivial, trivial⟩⟩⟩⟩⟩⟩⟩⟩⟩⟩⟩, ⟨⟨⟨inR_lt (inb_ok t9), trivial⟩, rfl⟩, trivial⟩⟩
      refine TS.draw 11 [(8, 3)] [] (by kernel_rfl) ?_ ?_
      · apply prop_of ?_ hq
        kernel_rfl
      refine XS.then ?_
      refine TS.seq ?_
      refine TS.seq ?_
      have hq : (True) ∧ ((True) ∧ ((True) ∧ ((True) ∧ ((True) ∧ ((True) ∧ (True)))))) := ⟨trivial, ⟨trivial, ⟨trivial, ⟨trivial, ⟨trivial, ⟨trivial, trivial⟩⟩⟩⟩⟩⟩
      refine TS.reg [] ?_ ?_
      · apply prop_of ?_ hq
        kernel_rfl
      refine XS.then ?_
      refine TS.cut (D := List (Int × Int × Bool)) (fun d => match d with | m1 => (mkTs 65 [(2, (.ptr 0 [])), (4, (.ptr 2 [])), (8, (.ptr 3 []))], [(.box 65 (.st (.cons (.row 1) (.cons (.st (.cons (.int .i64 y_10.1) (.int .i64 y_10.2.1))) (.cons (.st (.cons (.int .i64 y_10.2.2.1) (.int .i64 y_10.2.2.2.1))) (.int .i64 y_10.2.2.2.2.1)))))), (.row 75 (.st (.pair (.int .u64) (.pair (.int .i64) .bool))) m1), (.box 65 (.st (.cons .nilS (.cons (.st (.cons (.int .i64 (0 : Int)) (.int .i64 (0 : Int)))) (.cons (.st (.cons (.int .i64 (0 : Int)) (.int .i64 (0 : Int)))) (.int .i64 (0 : Int))))))), (.box 63 (.st (.cons (.int .i64 y_9.1) (.int .i64 y_9.2))))])) (fun d => F34_j2 n y_9 y_10 d = some r) ?_ ?_
      · rintro m1 h
        replace h : (some (y_9.1, y_9.2, y_10.2.2.1, y_10.2.2.2.1, y_10.2.2.2.2.1, (0 : Int), m1)) = some r := h
        refine XS.then ?_
        refine TS.seq ?_
        have hq : (True) ∧ ((True) ∧ ((True) ∧ (True))) := ⟨trivial, ⟨trivial, ⟨trivial, trivial⟩⟩⟩
        refine TS.reg [] ?_ ?_
        · apply prop_of ?_ hq
          kernel_rfl
        refine XS.then ?_
        refine TS.seq ?_
        have hq : (True) ∧ ((True) ∧ ((True) ∧ (True))) := ⟨trivial, ⟨trivial, ⟨trivial, trivial⟩⟩⟩
        refine TS.reg [] ?_ ?_
        · apply prop_of ?_ hq
          kernel_rfl
        refine XS.then ?_
        refine TS.ret ?_
        obtain rfl : (y_9.1, y_9.2, y_10.2.2.1, y_10.2.2.2.1, y_10.2.2.2.2.1, (0 : Int), m1) = r := Option.some.inj h
        exact XS.fin [1] ((True) ∧ ((True) ∧ (True))) (by kernel_rfl) ⟨trivial, ⟨trivial, trivial⟩⟩
      · rcases bif_some h with ⟨c10, h⟩ | ⟨c11, h⟩
        · refine TS.cond (y_10.1 == (IntKind.wrap .i64 (((r_Cells.length : Nat) : Int) - (2 : Int)))) ?_ (fun e => ?_) (fun e => by rw [c10] at e; cases e)
          · kernel_rfl
          obtain ⟨t12, h⟩ := test_some h
          have hq : (True) ∧ ((True) ∧ ((True) ∧ ((True) ∧ ((True) ∧ ((True) ∧ ((True) ∧ ((inR (IntKind.wrap .i64 (((r_Cells.length : Nat) : Int) - (1 : Int))) (((y_10.2.2.2.2.2.set y_10.1.toNat (word, ((y_10.2.2.2.2.2.getD y_10.1.toNat ((0 : Int), ((0 : Int), false))).2.1, (y_10.2.2.2.2.2.getD y_10.1.toNat ((0 : Int), ((0 : Int), false))).2.2))).set y_10.1.toNat (((y_10.2.2.2.2.2.set y_10.1.toNat (word, ((y_10.2.2.2.2.2.getD y_10.1.toNat ((0 : Int), ((0 : Int), false))).2.1, (y_10.2.2.2.2.2.getD y_10.1.toNat ((0 : Int), ((0 : Int), false))).2.2))).getD y_10.1.toNat ((0 : Int), ((0 : Int), false))).1, (y_10.2.1, ((y_10.2.2.2.2.2.set y_10.1.toNat (word, ((y_10.2.2.2.2.2.getD y_10.1.toNat ((0 : Int), ((0 : Int), false))).2.1, (y_10.2.2.2.2.2.getD y_10.1.toNat ((0 : Int), ((0 : Int), false))).2.2))).getD y_10.1.toNat ((0 : Int), ((0 : Int), false))).2.2))).length)) ∧ ((True) ∧ (((((IntKind.wrap .i64 (((r_Cells.length : Nat) : Int) - (1 : Int))).toNat) < ((y_10.2.2.2.2.2.set y_10.1.toNat (word, ((y_10.2.2.2.2.2.getD y_10.1.toNat ((0 : Int), ((0 : Int), false))).2.1, (y_10.2.2.2.2.2.getD y_10.1.toNat ((0 : Int), ((0 : Int), false))).2.2))).set y_10.1.toNat (((y_10.2.2.2.2.2.set y_10.1.toNat (word, ((y_10.2.2.2.2.2.getD y_10.1.toNat ((0 : Int), ((0 : Int), false))).2.1, (y_10.2.2.2.2.2.getD y_10.1.toNat ((0 : Int), ((0 : Int), false))).2.2))).getD y_10.1.toNat ((0 : Int), ((0 : Int), false))).1, (y_10.2.1, ((y_10.2.2.2.2.2.set y_10.1.toNat (word, ((y_10.2.2.2.2.2.getD y_10.1.toNat ((0 : Int), ((0 : Int), false))).2.1, (y_10.2.2.2.2.2.getD y_10.1.toNat ((0 : Int), ((0 : Int), false))).2.2))).getD y_10.1.toNat ((0 : Int), ((0 : Int), false))).2.2))).length ∧ (True)) ∧ ((y_10.2.2.2.2.2.set y_10.1.toNat (word, ((y_10.2.2.2.2.2.getD y_10.1.toNat ((0 : Int), ((0 : Int), false))).2.1, (y_10.2.2.2.2.2.getD y_10.1.toNat ((0 : Int), ((0 : Int), false))).2.2))).set y_10.1.toNat (((y_10.2.2.2.2.2.set y_10.1.toNat (word, ((y_10.2.2.2.2.2.getD y_10.1.toNat ((0 : Int), ((0 : Int), false))).2.1, (y_10.2.2.2.2.2.getD y_10.1.toNat ((0 : Int), ((0 : Int), false))).2.2))).getD y_10.1.toNat ((0 : Int), ((0 : Int), false))).1, (y_10.2.1, ((y_10.2.2.2.2.2.set y_10.1.toNat (word, ((y_10.2.2.2.2.2.getD y_10.1.toNat ((0 : Int), ((0 : Int), false))).2.1, (y_10.2.2.2.2.2.getD y_10.1.toNat ((0 : Int), ((0 : Int), false))).2.2))).getD y_10.1.toNat ((0 : Int), ((0 : Int), false))).2.2))).length = ((y_10.2.2.2.2.2.set y_10.1.toNat (word, ((y_10.2.2.2.2.2.getD y_10.1.toNat ((0 : Int), ((0 : Int), false))).2.1, (y_10.2.2.2.2.2.getD y_10.1.toNat ((0 : Int), ((0 : Int), false))).2.2))).set y_10.1.toNat (((y_10.2.2.2.2.2.set y_10.1.toNat (word, ((y_10.2.2.2.2.2.getD y_10.1.toNat ((0 : Int), ((0 : Int), false))).2.1, (y_10.2.2.2.2.2.getD y_10.1.toNat ((0 : Int), ((0 : Int), false))).2.2))).getD y_10.1.toNat ((0 : Int), ((0 : Int), false))).1, (y_10.2.1, ((y_10.2.2.2.2.2.set y_10.1.toNat (word, ((y_10.2.2.2.2.2.getD y_10.1.toNat ((0 : Int), ((0 : Int), false))).2.1, (y_10.2.2.2.2.2.getD y_10.1.toNat ((0 : Int), ((0 : Int), false))).2.2))).getD y_10.1.toNat ((0 : Int), ((0 : Int), false))).2.2))).length) ∧ (True)))))))))) := ⟨trivial, ⟨trivial, ⟨trivial, ⟨trivial, ⟨trivial, ⟨trivial, ⟨trivial, ⟨inb_ok t12, ⟨trivial, ⟨⟨⟨inR_lt (inb_ok t12), trivial⟩, rfl⟩, trivial⟩⟩⟩⟩⟩⟩⟩⟩⟩⟩
          refine TS.reg [] ?_ ?_
          · apply prop_of ?_ hq
            kernel_rfl
          refine XS.reAny [0, 3, 1, 2] (mkMask 65 [2, 4, 8]) (((y_10.2.2.2.2.2.set y_10.1.toNat (word, ((y_10.2.2.2.2.2.getD y_10.1.toNat ((0 : Int), ((0 : Int), false))).2.1, (y_10.2.2.2.2.2.getD y_10.1.toNat ((0 : Int), ((0 : Int), false))).2.2))).set y_10.1.toNat (((y_10.2.2.2.2.2.set y_10.1.toNat (word, ((y_10.2.2.2.2.2.getD y_10.1.toNat ((0 : Int), ((0 : Int), false))).2.1, (y_10.2.2.2.2.2.getD y_10.1.toNat ((0 : Int), ((0 : Int), false))).2.2))).getD y_10.1.toNat ((0 : Int), ((0 : Int), false))).1, (y_10.2.1, ((y_10.2.2.2.2.2.set y_10.1.toNat (word, ((y_10.2.2.2.2.2.getD y_10.1.toNat ((0 : Int), ((0 : Int), false))).2.1, (y_10.2.2.2.2.2.getD y_10.1.toNat ((0 : Int), ((0 : Int), false))).2.2))).getD y_10.1.toNat ((0 : Int), ((0 : Int), false))).2.2))).set ((IntKind.wrap .i64 (((r_Cells.length : Nat) : Int) - (1 : Int))).toNat) ((((y_10.2.2.2.2.2.set y_10.1.toNat (word, ((y_10.2.2.2.2.2.getD y_10.1.toNat ((0 : Int), ((0 : Int), false))).2.1, (y_10.2.2.2.2.2.getD y_10.1.toNat ((0 : Int), ((0 : Int), false))).2.2))).set y_10.1.toNat (((y_10.2.2.2.2.2.set y_10.1.toNat (word, ((y_10.2.2.2.2.2.getD y_10.1.toNat ((0 : Int), ((0 : Int), false))).2.1, (y_10.2.2.2.2.2.getD y_10.1.toNat ((0 : Int), ((0 : Int), false))).2.2))).getD y_10.1.toNat ((0 : Int), ((0 : Int), false))).1, (y_10.2.1, ((y_10.2.2.2.2.2.set y_10.1.toNat (word, ((y_10.2.2.2.2.2.getD y_10.1.toNat ((0 : Int), ((0 : Int), false))).2.1, (y_10.2.2.2.2.2.getD y_10.1.toNat ((0 : Int), ((0 : Int), false))).2.2))).getD y_10.1.toNat ((0 : Int), ((0 : Int), false))).2.2))).getD ((IntKind.wrap .i64 (((r_Cells.length : Nat) : Int) - (1 : Int))).toNat) ((0 : Int), ((0 : Int), false))).1, (y_10.2.1, (((y_10.2.2.2.2.2.set y_10.1.toNat (word, ((y_10.2.2.2.2.2.getD y_10.1.toNat ((0 : Int), ((0 : Int), false))).2.1, (y_10.2.2.2.2.2.getD y_10.1.toNat ((0 : Int), ((0 : Int), false))).2.2))).set y_10.1.toNat (((y_10.2.2.2.2.2.set y_10.1.toNat (word, ((y_10.2.2.2.2.2.getD y_10.1.toNat ((0 : Int), ((0 : Int), false))).2.1, (y_10.2.2.2.2.2.getD y_10.1.toNat ((0 : Int), ((0 : Int), false))).2.2))).getD y_10.1.toNat ((0 : Int), ((0 : Int), false))).1, (y_10.2.1, ((y_10.2.2.2.2.2.set y_10.1.toNat (word, ((y_10.2.2.2.2.2.getD y_10.1.toNat ((0 : Int), ((0 : Int), false))).2.1, (y_10.2.2.2.2.2.getD y_10.1.toNat ((0 : Int), ((0 : Int), false))).2.2))).getD y_10.1.toNat ((0 : Int), ((0 : Int), false))).2.2))).getD ((IntKind.wrap .i64 (((r_Cells.length : Nat) : Int) - (1 : Int))).toNat) ((0 : Int), ((0 : Int), false))).2.2))) h ?_
          kernel_rfl
        · refine TS.cond (y_10.1 == (IntKind.wrap .i64 (((r_Cells.length : Nat) : Int) - (2 : Int)))) ?_ (fun e => by rw [c11] at e; cases e) (fun e => ?_)
          · kernel_rfl
          refine TS.skip ?_
          refine XS.reAny [0, 3, 1, 2] (mkMask 65 [2, 4, 8]) ((y_10.2.2.2.2.2.set y_10.1.toNat (word, ((y_10.2.2.2.2.2.getD y_10.1.toNat ((0 : Int), ((0 : Int), false))).2.1, (y_10.2.2.2.2.2.getD y_10.1.toNat ((0 : Int), ((0 : Int), false))).2.2))).set y_10.1.toNat (((y_10.2.2.2.2.2.set y_10.1.toNat (word, ((y_10.2.2.2.2.2.getD y_10.1.toNat ((0 : Int), ((0 : Int), false))).2.1, (y_10.2.2.2.2.2.getD y_10.1.toNat ((0 : Int), ((0 : Int), false))).2.2))).getD y_10.1.toNat ((0 : Int), ((0 : Int), false))).1, (y_10.2.1, ((y_10.2.2.2.2.2.set y_10.1.toNat (word, ((y_10.2.2.2.2.2.getD y_10.1.toNat ((0 : Int), ((0 : Int), false))).2.1, (y_10.2.2.2.2.2.getD y_10.1.toNat ((0 : Int), ((0 : Int), false))).2.2))).getD y_10.1.toNat ((0 : Int), ((0 : Int), false))).2.2))) h ?_
          kernel_rfl

/-! plugtree/ring.Get -/
def F39 (n : Nat) (r_Cells : List (Int × Int × Bool)) (r_Put_At : Int) (r_Put_Bit : Int) (r_Get_At : Int) (r_Get_Bit : Int) (r_Seen : Int) : Option (Int × Int × Int × Int × Int × Int × Bool × Int × (List (Int × Int × Bool))) := ((F36 n r_Cells r_Put_At r_Put_Bit r_Get_At r_Get_Bit r_Seen).bind fun y_10 => (bif (y_10 != (0 : Int)) then (some ((0 : Int), (0 : Int), (0 : Int), (0 : Int), (0 : Int), (0 : Int), false, y_10, ([] : List (Int × Int × Bool)))) else ((F77 n r_Cells r_Put_At r_Put_Bit r_Get_At r_Get_Bit r_Seen).bind fun y_11 => (bif inb y_11.2.2.1 y_11.2.2.2.2.2.length then (bif ((y_11.2.2.2.2.2.getD y_11.2.2.1.toNat ((0 : Int), ((0 : Int), false))).2.1 != y_11.2.2.2.1) then (some (y_11.1, y_11.2.1, y_11.2.2.1, y_11.2.2.2.1, y_11.2.2.2.2.1, (0 : Int), false, (0 : Int), y_11.2.2.2.2.2)) else ((F76 n y_11.2.2.1 y_11.2.2.2.1 ((y_11.2.2.2.2.2.length : Nat) : Int)).bind fun y_12 => (some (y_11.1, y_11.2.1, y_12.1, y_12.2, y_11.2.2.2.2.1, (y_11.2.2.2.2.2.getD y_11.2.2.1.toNat ((0 : Int), ((0 : Int), false))).1, true, (0 : Int), y_11.2.2.2.2.2)))) else none))))
theorem F39_ok (n : Nat) (r_Cells : List (Int × Int × Bool)) (r_Put_At : Int) (r_Put_Bit : Int) (r_Get_At : Int) (r_Get_Bit : Int) (r_Seen : Int) (r : Int × Int × Int × Int × Int × Int × Bool × Int × (List (Int × Int × Bool))) (h : F39 n r_Cells r_Put_At r_Put_Bit r_Get_At r_Get_Bit r_Seen = some r) : PureC Try.prog 39 [(.st (.cons (.sl (.st (.pair (.int .u64) (.pair (.int .i64) .bool))) r_Cells) (.cons (.st (.cons (.int .i64 r_Put_At) (.int .i64 r_Put_Bit))) (.cons (.st (.cons (.int .i64 r_Get_At) (.int .i64 r_Get_Bit))) (.int .i64 r_Seen)))))] (.tup (.cons (.st (.cons (.row 0) (.cons (.st (.cons (.int .i64 r.1) (.int .i64 r.2.1))) (.cons (.st (.cons (.int .i64 r.2.2.1) (.int .i64 r.2.2.2.1))) (.int .i64 r.2.2.2.2.1))))) (.cons (.int .u64 r.2.2.2.2.2.1) (.cons (.bool r.2.2.2.2.2.2.1) (.cons (.int .i64 r.2.2.2.2.2.2.2.1) .nil))))) [(.row 75 (.st (.pair (.int .u64) (.pair (.int .i64) .bool))) r.2.2.2.2.2.2.2.2)] := by
  refine PureC.mkS Try.func39 rfl rfl ?_
  intro w0 fz0 hfz
  replace h : ((F36 n r_Cells r_Put_At r_Put_Bit r_Get_At r_Get_Bit r_Seen).bind fun y_10 => (bif (y_10 != (0 : Int)) then (some ((0 : Int), (0 : Int), (0 : Int), (0 : Int), (0 : Int), (0 : Int), false, y_10, ([] : List (Int × Int × Bool)))) else ((F77 n r_Cells r_Put_At r_Put_Bit r_Get_At r_Get_Bit r_Seen).bind fun y_11 => (bif inb y_11.2.2.1 y_11.2.2.2.2.2.length then (bif ((y_11.2.2.2.2.2.getD y_11.2.2.1.toNat ((0 : Int), ((0 : Int), false))).2.1 != y_11.2.2.2.1) then (some (y_11.1, y_11.2.1, y_11.2.2.1, y_11.2.2.2.1, y_11.2.2.2.2.1, (0 : Int), false, (0 : Int), y_11.2.2.2.2.2)) else ((F76 n y_11.2.2.1 y_11.2.2.2.1 ((y_11.2.2.2.2.2.length : Nat) : Int)).bind fun y_12 => (some (y_11.1, y_11.2.1, y_12.1, y_12.2, y_11.2.2.2.2.1, (y_11.2.2.2.2.2.getD y_11.2.2.1.toNat ((0 : Int), ((0 : Int), false))).1, true, (0 : Int), y_11.2.2.2.2.2)))) else none)))) = some r := h
  refine TS.seq ?_
  have hq : (True) ∧ ((True) ∧ ((True) ∧ ((True) ∧ ((True) ∧ (True))))) := ⟨trivial, ⟨trivial, ⟨trivial, ⟨trivial, ⟨trivial, trivial⟩⟩⟩⟩⟩
  refine TS.reg [] ?_ ?_
  · apply prop_of ?_ hq
    kernel_rfl
  refine XS.then ?_
  refine TS.seq ?_
  refine TS.seq ?_
  obtain ⟨y_10, hx1, h⟩ := bind_some' h
  have hq : (True) ∧ ((PureC Try.prog 36 [(.st (.cons (.sl (.st (.pair (.int .u64) (.pair (.int .i64) .bool))) r_Cells) (.cons (.st (.cons (.int .i64 r_Put_At) (.int .i64 r_Put_Bit))) (.cons (.st (.cons (.int .i64 r_Get_At) (.int .i64 r_Get_Bit))) (.int .i64 r_Seen)))))] (.int .i64 y_10) []) ∧ ((True) ∧ (True))) := ⟨trivial, ⟨F36_ok n r_Cells r_Put_At r_Put_Bit r_Get_At r_Get_Bit r_Seen y_10 hx1, ⟨trivial, trivial⟩⟩⟩
  refine TS.reg [.none, (.call (.int .i64 y_10) [])] ?_ ?_
  · apply prop_of ?_ hq
    kernel_rfl
  refine XS.then ?_
  refine TS.seq ?_
  have hq : (True) ∧ ((True) ∧ (True)) := ⟨trivial, ⟨trivial, trivial⟩⟩
  refine TS.reg [] ?_ ?_
  · apply prop_of ?_ hq
    kernel_rfl
  refine XS.then ?_
  rcases bif_some h with ⟨c2, h⟩ | ⟨c3, h⟩
  · refine TS.cond (y_10 != (0 : Int)) ?_ (fun e => ?_) (fun e => by rw [c2] at e; cases e)
    · kernel_rfl
    refine TS.seq ?_
    have hq : (True) ∧ ((True) ∧ ((True) ∧ ((True) ∧ ((True) ∧ ((True) ∧ (True)))))) := ⟨trivial, ⟨trivial, ⟨trivial, ⟨trivial, ⟨trivial, ⟨trivial, trivial⟩⟩⟩⟩⟩⟩
    refine TS.reg [] ?_ ?_
    · apply prop_of ?_ hq
      kernel_rfl
    refine XS.then ?_
    refine TS.ret ?_
    refine XS.passR ?_
    obtain rfl : ((0 : Int), (0 : Int), (0 : Int), (0 : Int), (0 : Int), (0 : Int), false, y_10, ([] : List (Int × Int × Bool))) = r := Option.some.inj h
    refine XS.wk (.row true 1 [false] 75 (.st (.pair (.int .u64) (.pair (.int .i64) .bool)))) ?_
    exact XS.fin [2] ((True) ∧ ((True) ∧ ((True) ∧ ((True) ∧ (True))))) (by kernel_rfl) ⟨trivial, ⟨trivial, ⟨trivial, ⟨trivial, trivial⟩⟩⟩⟩
  · refine TS.cond (y_10 != (0 : Int)) ?_ (fun e => by rw [c3] at e; cases e) (fun e => ?_)
    · kernel_rfl
    refine TS.skip ?_
    refine XS.then ?_
    refine TS.seq ?_
    obtain ⟨y_11, hx4, h⟩ := bind_some' h
    have hq : (True) ∧ ((PureC Try.prog 77 [(.st (.cons (.sl (.st (.pair (.int .u64) (.pair (.int .i64) .bool))) r_Cells) (.cons (.st (.cons (.int .i64 r_Put_At) (.int .i64 r_Put_Bit))) (.cons (.st (.cons (.int .i64 r_Get_At) (.int .i64 r_Get_Bit))) (.int .i64 r_Seen)))))] (.st (.cons (.row 0) (.cons (.st (.cons (.int .i64 y_11.1) (.int .i64 y_11.2.1))) (.cons (.st (.cons (.int .i64 y_11.2.2.1) (.int .i64 y_11.2.2.2.1))) (.int .i64 y_11.2.2.2.2.1))))) [(.row 75 (.st (.pair (.int .u64) (.pair (.int .i64) .bool))) y_11.2.2.2.2.2)]) ∧ ((True) ∧ (True))) := ⟨trivial, ⟨F77_ok n r_Cells r_Put_At r_Put_Bit r_Get_At r_Get_Bit r_Seen y_11 hx4, ⟨trivial, trivial⟩⟩⟩
    refine TS.reg [.none, (.call (.st (.cons (.row 0) (.cons (.st (.cons (.int .i64 y_11.1) (.int .i64 y_11.2.1))) (.cons (.st (.cons (.int .i64 y_11.2.2.1) (.int .i64 y_11.2.2.2.1))) (.int .i64 y_11.2.2.2.2.1))))) [(.row 75 (.st (.pair (.int .u64) (.pair (.int .i64) .bool))) y_11.2.2.2.2.2)])] ?_ ?_
    · apply prop_of ?_ hq
      kernel_rfl
    refine XS.then ?_
    refine TS.seq ?_
    obtain ⟨t5, h⟩ := test_some h
    have hq : (True) ∧ ((True) ∧ ((True) ∧ ((True) ∧ ((True) ∧ ((inR y_11.2.2.1 y_11.2.2.2.2.2.length) ∧ ((y_11.2.2.1.toNat < y_11.2.2.2.2.2.length ∧ (True)) ∧ ((True) ∧ ((True) ∧ (True))))))))) := ⟨trivial, ⟨trivial, ⟨trivial, ⟨trivial, ⟨trivial, ⟨inb_ok t5, ⟨⟨inR_lt (inb_ok t5), trivial⟩, ⟨trivial, ⟨trivial, trivial⟩⟩⟩⟩⟩⟩⟩⟩⟩
    refine TS.reg [] ?_ ?_
    · apply prop_of ?_ hq
      kernel_rfl
    refine XS.then ?_
    refine TS.seq ?_
    refine TS.seq ?_
    have hq : (True) ∧ ((True) ∧ ((True) ∧ ((True) ∧ ((True) ∧ ((True) ∧ (True)))))) := ⟨trivial, ⟨trivial, ⟨trivial, ⟨trivial, ⟨trivial, ⟨trivial, trivial⟩⟩⟩⟩⟩⟩
    refine TS.reg [] ?_ ?_
    · apply prop_of ?_ hq
      kernel_rfl
    refine XS.then ?_
    rcases bif_some h with ⟨c6, h⟩ | ⟨c7, h⟩
    · refine TS.cond ((y_11.2.2.2.2.2.getD y_11.2.2.1.toNat ((0 : Int), ((0 : Int), false))).2.1 != y_11.2.2.2.1) ?_ (fun e => ?_) (fun e => by rw [c6] at e; cases e)
      · kernel_rfl
      refine TS.seq ?_
      have hq : (True) ∧ ((True) ∧ ((True) ∧ ((True) ∧ ((True) ∧ (True))))) := ⟨trivial, ⟨trivial, ⟨trivial, ⟨trivial, ⟨trivial, trivial⟩⟩⟩⟩⟩
      refine TS.reg [] ?_ ?_
      · apply prop_of ?_ hq
        kernel_rfl
      refine XS.then ?_
      refine TS.ret ?_
      refine XS.passR ?_
      obtain rfl : (y_11.1, y_11.2.1, y_11.2.2.1, y_11.2.2.2.1, y_11.2.2.2.2.1, (0 : Int), false, (0 : Int), y_11.2.2.2.2.2) = r := Option.some.inj h
      exact XS.fin [2] ((True) ∧ ((True) ∧ ((True) ∧ ((True) ∧ (True))))) (by kernel_rfl) ⟨trivial, ⟨trivial, ⟨trivial, ⟨trivial, trivial⟩⟩⟩⟩
    · refine TS.cond ((y_11.2.2.2.2.2.getD y_11.2.2.1.toNat ((0 : Int), ((0 : Int), false))).2.1 != y_11.2.2.2.1) ?_ (fun e => by rw [c7] at e; cases e) (fun e => ?_)
      · kernel_rfl
      refine TS.skip ?_
      refine XS.then ?_
      refine TS.seq ?_
      obtain ⟨y_12, hx8, h⟩ := bind_some' h
      have hq : (True) ∧ ((True) ∧ ((True) ∧ ((True) ∧ ((True) ∧ ((PureC Try.prog 76 [(.st (.cons (.int .i64 y_11.2.2.1) (.int .i64 y_11.2.2.2.1))), (.int .i64 ((y_11.2.2.2.2.2.length : Nat) : Int))] (.st (.cons (.int .i64 y_12.1) (.int .i64 y_12.2))) []) ∧ ((True) ∧ ((True) ∧ (True)))))))) := ⟨trivial, ⟨trivial, ⟨trivial, ⟨trivial, ⟨trivial, ⟨F76_ok n y_11.2.2.1 y_11.2.2.2.1 ((y_11.2.2.2.2.2.length : Nat) : Int) y_12 hx8, ⟨trivial, ⟨trivial, trivial⟩⟩⟩⟩⟩⟩⟩⟩
      refine TS.reg [.none, .none, .none, .none, .none, (.call (.st (.cons (.int .i64 y_12.1) (.int .i64 y_12.2))) [])] ?_ ?_
      · apply prop_of ?_ hq
        kernel_rfl
      refine XS.then ?_
      refine TS.seq ?_
      have hq : ((True) ∧ ((True) ∧ ((True) ∧ ((True) ∧ (True))))) ∧ ((True) ∧ ((True) ∧ ((True) ∧ (True)))) := ⟨⟨trivial, ⟨trivial, ⟨trivial, ⟨trivial, trivial⟩⟩⟩⟩, ⟨trivial, ⟨trivial, ⟨trivial, trivial⟩⟩⟩⟩
      refine TS.draw 4 [(3, 1)] [] (by kernel_rfl) ?_ ?_
      · apply prop_of ?_ hq
        kernel_rfl
      refine XS.then ?_
      refine TS.ret ?_
      obtain rfl : (y_11.1, y_11.2.1, y_12.1, y_12.2, y_11.2.2.2.2.1, (y_11.2.2.2.2.2.getD y_11.2.2.1.toNat ((0 : Int), ((0 : Int), false))).1, true, (0 : Int), y_11.2.2.2.2.2) = r := Option.some.inj h
      exact XS.fin [2] ((True) ∧ ((True) ∧ ((True) ∧ ((True) ∧ (True))))) (by kernel_rfl) ⟨trivial, ⟨trivial, ⟨trivial, ⟨trivial, trivial⟩⟩⟩⟩

/-! plugtree/ring.Learn -/
def F40 (n : Nat) (r_Cells : List (Int × Int × Bool)) (r_Put_At : Int) (r_Put_Bit : Int) (r_Get_At : Int) (r_Get_Bit : Int) (r_Seen : Int) : Option (Int × Int × Int × Int × Int × Int × (List (Int × Int × Bool))) := ((F36 n r_Cells r_Put_At r_Put_Bit r_Get_At r_Get_Bit r_Seen).bind fun y_8 => (bif (y_8 != (0 : Int)) then (some ((0 : Int), (0 : Int), (0 : Int), (0 : Int), (0 : Int), y_8, ([] : List (Int × Int × Bool)))) else ((F77 n r_Cells r_Put_At r_Put_Bit r_Get_At r_Get_Bit r_Seen).bind fun y_9 => (some (y_9.1, y_9.2.1, y_9.2.2.1, y_9.2.2.2.1, y_9.2.2.1, (0 : Int), y_9.2.2.2.2.2)))))
theorem F40_ok (n : Nat) (r_Cells : List (Int × Int × Bool)) (r_Put_At : Int) (r_Put_Bit : Int) (r_Get_At : Int) (r_Get_Bit : Int) (r_Seen : Int) (r : Int × Int × Int × Int × Int × Int × (List (Int × Int × Bool))) (h : F40 n r_Cells r_Put_At r_Put_Bit r_Get_At r_Get_Bit r_Seen = some r) : PureC Try.prog 40 [(.st (.cons (.sl (.st (.pair (.int .u64) (.pair (.int .i64) .bool))) r_Cells) (.cons (.st (.cons (.int .i64 r_Put_At) (.int .i64 r_Put_Bit))) (.cons (.st (.cons (.int .i64 r_Get_At) (.int .i64 r_Get_Bit))) (.int .i64 r_Seen)))))] (.tup (.cons (.st (.cons (.row 0) (.cons (.st (.cons (.int .i64 r.1) (.int .i64 r.2.1))) (.cons (.st (.cons (.int .i64 r.2.2.1) (.int .i64 r.2.2.2.1))) (.int .i64 r.2.2.2.2.1))))) (.cons (.int .i64 r.2.2.2.2.2.1) .nil))) [(.row 75 (.st (.pair (.int .u64) (.pair (.int .i64) .bool))) r.2.2.2.2.2.2)] := by
  refine PureC.mkS Try.func40 rfl rfl ?_
  intro w0 fz0 hfz
  replace h : ((F36 n r_Cells r_Put_At r_Put_Bit r_Get_At r_Get_Bit r_Seen).bind fun y_8 => (bif (y_8 != (0 : Int)) then (some ((0 : Int), (0 : Int), (0 : Int), (0 : Int), (0 : Int), y_8, ([] : List (Int × Int × Bool)))) else ((F77 n r_Cells r_Put_At r_Put_Bit r_Get_At r_Get_Bit r_Seen).bind fun y_9 => (some (y_9.1, y_9.2.1, y_9.2.2.1, y_9.2.2.2.1, y_9.2.2.1, (0 : Int), y_9.2.2.2.2.2))))) = some r := h
  refine TS.seq ?_
  have hq : (True) ∧ ((True) ∧ ((True) ∧ (True))) := ⟨trivial, ⟨trivial, ⟨trivial, trivial⟩⟩⟩
  refine TS.reg [] ?_ ?_
  · apply prop_of ?_ hq
    kernel_rfl
  refine XS.then ?_
  refine TS.seq ?_
  refine TS.seq ?_
  obtain ⟨y_8, hx1, h⟩ := bind_some' h
  have hq : (True) ∧ ((PureC Try.prog 36 [(.st (.cons (.sl (.st (.pair (.int .u64) (.pair (.int .i64) .bool))) r_Cells) (.cons (.st (.cons (.int .i64 r_Put_At) (.int .i64 r_Put_Bit))) (.cons (.st (.cons (.int .i64 r_Get_At) (.int .i64 r_Get_Bit))) (.int .i64 r_Seen)))))] (.int .i64 y_8) []) ∧ ((True) ∧ (True))) := ⟨trivial, ⟨F36_ok n r_Cells r_Put_At r_Put_Bit r_Get_At r_Get_Bit r_Seen y_8 hx1, ⟨trivial, trivial⟩⟩⟩
  refine TS.reg [.none, (.call (.int .i64 y_8) [])] ?_ ?_
  · apply prop_of ?_ hq
    kernel_rfl
  refine XS.then ?_
  refine TS.seq ?_
  have hq : (True) ∧ ((True) ∧ (True)) := ⟨trivial, ⟨trivial, trivial⟩⟩
  refine TS.reg [] ?_ ?_
  · apply prop_of ?_ hq
    kernel_rfl
  refine XS.then ?_
  rcases bif_some h with ⟨c2, h⟩ | ⟨c3, h⟩
  · refine TS.cond (y_8 != (0 : Int)) ?_ (fun e => ?_) (fun e => by rw [c2] at e; cases e)
    · kernel_rfl
    refine TS.seq ?_
    have hq : (True) ∧ ((True) ∧ ((True) ∧ ((True) ∧ (True)))) := ⟨trivial, ⟨trivial, ⟨trivial, ⟨trivial, trivial⟩⟩⟩⟩
    refine TS.reg [] ?_ ?_
    · apply prop_of ?_ hq
      kernel_rfl
    refine XS.then ?_
    refine TS.ret ?_
    refine XS.passR ?_
    obtain rfl : ((0 : Int), (0 : Int), (0 : Int), (0 : Int), (0 : Int), y_8, ([] : List (Int × Int × Bool))) = r := Option.some.inj h
    refine XS.wk (.row true 1 [false] 75 (.st (.pair (.int .u64) (.pair (.int .i64) .bool)))) ?_
    exact XS.fin [2] ((True) ∧ ((True) ∧ (True))) (by kernel_rfl) ⟨trivial, ⟨trivial, trivial⟩⟩
  · refine TS.cond (y_8 != (0 : Int)) ?_ (fun e => by rw [c3] at e; cases e) (fun e => ?_)
    · kernel_rfl
    refine TS.skip ?_
    refine XS.then ?_
    refine TS.seq ?_
    obtain ⟨y_9, hx4, h⟩ := bind_some' h
    have hq : (True) ∧ ((PureC Try.prog 77 [(.st (.cons (.sl (.st (.pair (.int .u64) (.pair (.int .i64) .bool))) r_Cells) (.cons (.st (.cons (.int .i64 r_Put_At) (.int .i64 r_Put_Bit))) (.cons (.st (.cons (.int .i64 r_Get_At) (.int .i64 r_Get_Bit))) (.int .i64 r_Seen)))))] (.st (.cons (.row 0) (.cons (.st (.cons (.int .i64 y_9.1) (.int .i64 y_9.2.1))) (.cons (.st (.cons (.int .i64 y_9.2.2.1) (.int .i64 y_9.2.2.2.1))) (.int .i64 y_9.2.2.2.2.1))))) [(.row 75 (.st (.pair (.int .u64) (.pair (.int .i64) .bool))) y_9.2.2.2.2.2)]) ∧ ((True) ∧ (True))) := ⟨trivial, ⟨F77_ok n r_Cells r_Put_At r_Put_Bit r_Get_At r_Get_Bit r_Seen y_9 hx4, ⟨trivial, trivial⟩⟩⟩
    refine TS.reg [.none, (.call (.st (.cons (.row 0) (.cons (.st (.cons (.int .i64 y_9.1) (.int .i64 y_9.2.1))) (.cons (.st (.cons (.int .i64 y_9.2.2.1) (.int .i64 y_9.2.2.2.1))) (.int .i64 y_9.2.2.2.2.1))))) [(.row 75 (.st (.pair (.int .u64) (.pair (.int .i64) .bool))) y_9.2.2.2.2.2)])] ?_ ?_
    · apply prop_of ?_ hq
      kernel_rfl
    refine XS.then ?_
    refine TS.seq ?_
    have hq : (True) ∧ ((True) ∧ ((True) ∧ ((True) ∧ ((True) ∧ (True))))) := ⟨trivial, ⟨trivial, ⟨trivial, ⟨trivial, ⟨trivial, trivial⟩⟩⟩⟩⟩
    refine TS.reg [] ?_ ?_
    · apply prop_of ?_ hq
      kernel_rfl
    refine XS.then ?_
    refine TS.seq ?_
    have hq : (True) ∧ ((True) ∧ ((True) ∧ (True))) := ⟨trivial, ⟨trivial, ⟨trivial, trivial⟩⟩⟩
    refine TS.reg [] ?_ ?_
    · apply prop_of ?_ hq
      kernel_rfl
    refine XS.then ?_
    refine TS.ret ?_
    obtain rfl : (y_9.1, y_9.2.1, y_9.2.2.1, y_9.2.2.2.1, y_9.2.2.1, (0 : Int), y_9.2.2.2.2.2) = r := Option.some.inj h
    exact XS.fin [2] ((True) ∧ ((True) ∧ (True))) (by kernel_rfl) ⟨trivial, ⟨trivial, trivial⟩⟩

/-! plugtree/ring.Play -/
def F42_j8 (n : Nat) (k42_7 : (Int × Int × Int × Int × Int × Int × (List (Int × Int × Bool)) × (List Int)) → Option (Int × Int × Int × Int × Int × Int × (List (Int × Int × Bool)) × (List Int))) (x : Int) (y_11 : Int × Int × Int × Int × Int × Int × Bool × Int × (List (Int × Int × Bool))) : (List Int) → Option (Int × Int × Int × Int × Int × Int × (List (Int × Int × Bool)) × (List Int))
  | m3_2 => (k42_7 ((IntKind.wrap .i64 (x + (1 : Int))), y_11.1, y_11.2.1, y_11.2.2.1, y_11.2.2.2.1, y_11.2.2.2.2.1, y_11.2.2.2.2.2.2.2.2, m3_2))
def F42_l7 (n : Nat) (turns : List (Int × Int)) (k42_7 : (Int × Int × Int × Int × Int × Int × (List (Int × Int × Bool)) × (List Int)) → Option (Int × Int × Int × Int × Int × Int × (List (Int × Int × Bool)) × (List Int))) : (Int × Int × Int × Int × Int × Int × (List (Int × Int × Bool)) × (List Int)) → Option (Int × Int × Int × Int × Int × Int × (List (Int × Int × Bool)) × (List Int))
  | (x, m1, m1_2, m1_3, m1_4, m1_5, m2, m3) => (bif (decide (x < ((turns.length : Nat) : Int))) then (bif inb x turns.length then (bif ((turns.getD x.toNat ((0 : Int), (0 : Int))).1 == (1 : Int)) then ((F34 n m2 m1 m1_2 m1_3 m1_4 m1_5 ((turns.getD x.toNat ((0 : Int), (0 : Int))).2)).bind fun y_10 => (bif (y_10.2.2.2.2.2.1 == (0 : Int)) then (k42_7 ((IntKind.wrap .i64 (x + (1 : Int))), y_10.1, y_10.2.1, y_10.2.2.1, y_10.2.2.2.1, y_10.2.2.2.2.1, y_10.2.2.2.2.2.2, m3)) else (k42_7 ((IntKind.wrap .i64 (x + (1 : Int))), m1, m1_2, m1_3, m1_4, m1_5, m2, m3)))) else (bif ((turns.getD x.toNat ((0 : Int), (0 : Int))).1 == (2 : Int)) then ((F39 n m2 m1 m1_2 m1_3 m1_4 m1_5).bind fun y_11 => (bif y_11.2.2.2.2.2.2.1 then (bif (decide (m3.length + [y_11.2.2.2.2.2.1].length ≤ 17179869184)) then (F42_j8 n k42_7 x y_11 (m3 ++ [y_11.2.2.2.2.2.1])) else none) else (F42_j8 n k42_7 x y_11 m3))) else (bif ((turns.getD x.toNat ((0 : Int), (0 : Int))).1 == (3 : Int)) then ((F40 n m2 m1 m1_2 m1_3 m1_4 m1_5).bind fun y_12 => (k42_7 ((IntKind.wrap .i64 (x + (1 : Int))), y_12.1, y_12.2.1, y_12.2.2.1, y_12.2.2.2.1, y_12.2.2.2.2.1, y_12.2.2.2.2.2.2, m3))) else (some ((0 : Int), (0 : Int), (0 : Int), (0 : Int), (0 : Int), (1 : Int), ([] : List (Int × Int × Bool)), ([] : List Int)))))) else none) else (some (m1, m1_2, m1_3, m1_4, m1_5, (0 : Int), m2, m3)))
def F42 (n : Nat) (cells : Int) (turns : List (Int × Int)) : Option (Int × Int × Int × Int × Int × Int × (List (Int × Int × Bool)) × (List Int)) := ((F44 n cells).bind fun y_9 => (bif (y_9.2.2.2.2.2.1 != (0 : Int)) then (some ((0 : Int), (0 : Int), (0 : Int), (0 : Int), (0 : Int), y_9.2.2.2.2.2.1, ([] : List (Int × Int × Bool)), ([] : List Int))) else (bif (decide (((turns.length : Nat) : Int) > (1000 : Int))) then (some ((0 : Int), (0 : Int), (0 : Int), (0 : Int), (0 : Int), (2 : Int), ([] : List (Int × Int × Bool)), ([] : List Int))) else (loopF (F42_l7 n turns) n ((0 : Int), y_9.1, y_9.2.1, y_9.2.2.1, y_9.2.2.2.1, y_9.2.2.2.2.1, y_9.2.2.2.2.2.2, ([] : List Int))))))
theorem F42_ok (n : Nat) (cells : Int) (turns : List (Int × Int)) (r : Int × Int × Int × Int × Int × Int × (List (Int × Int × Bool)) × (List Int)) (h : F42 n cells turns = some r) : PureC Try.prog 42 [(.int .i64 cells), (.sl (.st (.pair (.int .i64) (.int .u64))) turns)] (.tup (.cons (.st (.cons (.row 0) (.cons (.st (.cons (.int .i64 r.1) (.int .i64 r.2.1))) (.cons (.st (.cons (.int .i64 r.2.2.1) (.int .i64 r.2.2.2.1))) (.int .i64 r.2.2.2.2.1))))) (.cons (.row 1) (.cons (.int .i64 r.2.2.2.2.2.1) .nil)))) [(.row 75 (.st (.pair (.int .u64) (.pair (.int .i64) .bool))) r.2.2.2.2.2.2.1), (.row 24 (.int .u64) r.2.2.2.2.2.2.2)] := by
  refine PureC.mkS Try.func42 rfl rfl ?_
  intro w0 fz0 hfz
  replace h : ((F44 n cells).bind fun y_9 => (bif (y_9.2.2.2.2.2.1 != (0 : Int)) then (some ((0 : Int), (0 : Int), (0 : Int), (0 : Int), (0 : Int), y_9.2.2.2.2.2.1, ([] : List (Int × Int × Bool)), ([] : List Int))) else (bif (decide (((turns.length : Nat) : Int) > (1000 : Int))) then (some ((0 : Int), (0 : Int), (0 : Int), (0 : Int), (0 : Int), (2 : Int), ([] : List (Int × Int × Bool)), ([] : List Int))) else (loopF (F42_l7 n turns) n ((0 : Int), y_9.1, y_9.2.1, y_9.2.2.1, y_9.2.2.2.1, y_9.2.2.2.2.1, y_9.2.2.2.2.2.2, ([] : List Int)))))) = some r := h
  refine TS.seq ?_
  have hq : (True) ∧ ((True) ∧ ((True) ∧ (True))) := ⟨trivial, ⟨trivial, ⟨trivial, trivial⟩⟩⟩
  refine TS.reg [] ?_ ?_
  · apply prop_of ?_ hq
    kernel_rfl
  refine XS.then ?_
  refine TS.seq ?_
  obtain ⟨y_9, hx1, h⟩ := bind_some' h
  have hq : (True) ∧ ((PureC Try.prog 44 [(.int .i64 cells)] (.tup (.cons (.st (.cons (.row 0) (.cons (.st (.cons (.int .i64 y_9.1) (.int .i64 y_9.2.1))) (.cons (.st (.cons (.int .i64 y_9.2.2.1) (.int .i64 y_9.2.2.2.1))) (.int .i64 y_9.2.2.2.2.1))))) (.cons (.int .i64 y_9.2.2.2.2.2.1) .nil))) [(.row 75 (.st (.pair (.int .u64) (.pair (.int .i64) .bool))) y_9.2.2.2.2.2.2)]) ∧ ((True) ∧ ((True) ∧ ((True) ∧ ((True) ∧ ((True) ∧ ((True) ∧ (True)))))))) := ⟨trivial, ⟨F44_ok n cells y_9 hx1, ⟨trivial, ⟨trivial, ⟨trivial, ⟨trivial, ⟨trivial, ⟨trivial, trivial⟩⟩⟩⟩⟩⟩⟩⟩
  refine TS.reg [.none, (.call (.tup (.cons (.st (.cons (.row 0) (.cons (.st (.cons (.int .i64 y_9.1) (.int .i64 y_9.2.1))) (.cons (.st (.cons (.int .i64 y_9.2.2.1) (.int .i64 y_9.2.2.2.1))) (.int .i64 y_9.2.2.2.2.1))))) (.cons (.int .i64 y_9.2.2.2.2.2.1) .nil))) [(.row 75 (.st (.pair (.int .u64) (.pair (.int .i64) .bool))) y_9.2.2.2.2.2.2)])] ?_ ?_
  · apply prop_of ?_ hq
    kernel_rfl
  refine XS.then ?_
  refine TS.seq ?_
  refine TS.seq ?_
  have hq : (True) ∧ ((True) ∧ (True)) := ⟨trivial, ⟨trivial, trivial⟩⟩
  refine TS.reg [] ?_ ?_
  · apply prop_of ?_ hq
    kernel_rfl
  refine XS.then ?_
  rcases bif_some h with ⟨c2, h⟩ | ⟨c3, h⟩
  · refine TS.cond (y_9.2.2.2.2.2.1 != (0 : Int)) ?_ (fun e => ?_) (fun e => by rw [c2] at e; cases e)
    · kernel_rfl
    refine TS.seq ?_
    have hq : (True) ∧ ((True) ∧ ((True) ∧ ((True) ∧ ((True) ∧ (True))))) := ⟨trivial, ⟨trivial, ⟨trivial, ⟨trivial, ⟨trivial, trivial⟩⟩⟩⟩⟩
    refine TS.reg [] ?_ ?_
    · apply prop_of ?_ hq
      kernel_rfl
    refine XS.then ?_
    refine TS.ret ?_
    refine XS.passR ?_
    obtain rfl : ((0 : Int), (0 : Int), (0 : Int), (0 : Int), (0 : Int), y_9.2.2.2.2.2.1, ([] : List (Int × Int × Bool)), ([] : List Int)) = r := Option.some.inj h
    refine XS.wk (.row true 0 [false] 75 (.st (.pair (.int .u64) (.pair (.int .i64) .bool)))) ?_
    refine XS.wk (.row false 5 [] 24 (.int .u64)) ?_
    exact XS.fin [3, 4] ((True) ∧ ((True) ∧ ((True) ∧ (True)))) (by kernel_rfl) ⟨trivial, ⟨trivial, ⟨trivial, trivial⟩⟩⟩
  · refine TS.cond (y_9.2.2.2.2.2.1 != (0 : Int)) ?_ (fun e => by rw [c3] at e; cases e) (fun e => ?_)
    · kernel_rfl
    refine TS.skip ?_
    refine XS.then ?_
    refine TS.seq ?_
    refine TS.seq ?_
    have hq : (True) ∧ ((True) ∧ ((True) ∧ (True))) := ⟨trivial, ⟨trivial, ⟨trivial, trivial⟩⟩⟩
    refine TS.reg [] ?_ ?_
    · apply prop_of ?_ hq
      kernel_rfl
    refine XS.then ?_
    rcases bif_some h with ⟨c4, h⟩ | ⟨c5, h⟩
    · refine TS.cond (decide (((turns.length : Nat) : Int) > (1000 : Int))) ?_ (fun e => ?_) (fun e => by rw [c4] at e; cases e)
      · kernel_rfl
      refine TS.seq ?_
      have hq : (True) ∧ ((True) ∧ ((True) ∧ ((True) ∧ (True)))) := ⟨trivial, ⟨trivial, ⟨trivial, ⟨trivial, trivial⟩⟩⟩⟩
      refine TS.reg [] ?_ ?_
      · apply prop_of ?_ hq
        kernel_rfl
      refine XS.then ?_
      refine TS.ret ?_
      refine XS.passR ?_
      obtain rfl : ((0 : Int), (0 : Int), (0 : Int), (0 : Int), (0 : Int), (2 : Int), ([] : List (Int × Int × Bool)), ([] : List Int)) = r := Option.some.inj h
      refine XS.wk (.row true 0 [false] 75 (.st (.pair (.int .u64) (.pair (.int .i64) .bool)))) ?_
      refine XS.wk (.row false 5 [] 24 (.int .u64)) ?_
      exact XS.fin [3, 4] ((True) ∧ ((True) ∧ ((True) ∧ (True)))) (by kernel_rfl) ⟨trivial, ⟨trivial, ⟨trivial, trivial⟩⟩⟩
    · refine TS.cond (decide (((turns.length : Nat) : Int) > (1000 : Int))) ?_ (fun e => by rw [c5] at e; cases e) (fun e => ?_)
      · kernel_rfl
      refine TS.skip ?_
      refine XS.then ?_
      refine TS.seq ?_
      have hq : (True) ∧ (True) := ⟨trivial, trivial⟩
      refine TS.reg [] ?_ ?_
      · apply prop_of ?_ hq
        kernel_rfl
      refine XS.then ?_
      refine TS.seq ?_
      refine TS.seq ?_
      have hq : (True) ∧ ((True) ∧ ((True) ∧ (True))) := ⟨trivial, ⟨trivial, ⟨trivial, trivial⟩⟩⟩
      refine TS.reg [] ?_ ?_
      · apply prop_of ?_ hq
        kernel_rfl
      refine XS.then ?_
      refine TS.block ?_
      refine TS.wk (.row false 9 [] 24 (.int .u64)) ?_
      refine TS.reLoop [0, 2, 1, 3] (mkMask 77 [4, 7, 9, 31, 32, 33]) (D := Int × Int × Int × Int × Int × Int × (List (Int × Int × Bool)) × (List Int)) (fun d => match d with | (x, m1, m1_2, m1_3, m1_4, m1_5, m2, m3) => (mkTs 77 [(4, (.ptr 0 [])), (7, (.ptr 1 [])), (9, (.row 3)), (31, (.sl (.st (.pair (.int .i64) (.int .u64))) turns)), (32, (.int .i64 ((turns.length : Nat) : Int))), (33, (.int .i64 x))], [(.box 65 (.st (.cons .nilS (.cons (.st (.cons (.int .i64 (0 : Int)) (.int .i64 (0 : Int)))) (.cons (.st (.cons (.int .i64 (0 : Int)) (.int .i64 (0 : Int)))) (.int .i64 (0 : Int))))))), (.box 65 (.st (.cons (.row 2) (.cons (.st (.cons (.int .i64 m1) (.int .i64 m1_2))) (.cons (.st (.cons (.int .i64 m1_3) (.int .i64 m1_4))) (.int .i64 m1_5)))))), (.row 75 (.st (.pair (.int .u64) (.pair (.int .i64) .bool))) m2), (.row 24 (.int .u64) m3)])) (fun n' d => loopF (F42_l7 n turns) n' d = some r) n ((0 : Int), y_9.1, y_9.2.1, y_9.2.2.1, y_9.2.2.2.1, y_9.2.2.2.2.1, y_9.2.2.2.2.2.2, ([] : List Int)) h ?_ (fun d => loopF_zero _ d r) ?_
      · kernel_rfl
      · rintro n7 ⟨x, m1, m1_2, m1_3, m1_4, m1_5, m2, m3⟩ h
        replace h : (bif (decide (x < ((turns.length : Nat) : Int))) then (bif inb x turns.length then (bif ((turns.getD x.toNat ((0 : Int), (0 : Int))).1 == (1 : Int)) then ((F34 n m2 m1 m1_2 m1_3 m1_4 m1_5 ((turns.getD x.toNat ((0 : Int), (0 : Int))).2)).bind fun y_10 => (bif (y_10.2.2.2.2.2.1 == (0 : Int)) then ((loopF (F42_l7 n turns) n7) ((IntKind.wrap .i64 (x + (1 : Int))), y_10.1, y_10.2.1, y_10.2.2.1, y_10.2.2.2.1, y_10.2.2.2.2.1, y_10.2.2.2.2.2.2, m3)) else ((loopF (F42_l7 n turns) n7) ((IntKind.wrap .i64 (x + (1 : Int))), m1, m1_2, m1_3, m1_4, m1_5, m2, m3)))) else (bif ((turns.getD x.toNat ((0 : Int), (0 : Int))).1 == (2 : Int)) then ((F39 n m2 m1 m1_2 m1_3 m1_4 m1_5).bind fun y_11 => (bif y_11.2.2.2.2.2.2.1 then (bif (decide (m3.length + [y_11.2.2.2.2.2.1].length ≤ 17179869184)) then (F42_j8 n (loopF (F42_l7 n turns) n7) x y_11 (m3 ++ [y_11.2.2.2.2.2.1])) else none) else (F42_j8 n (loopF (F42_l7 n turns) n7) x y_11 m3))) else (bif ((turns.getD x.toNat ((0 : Int), (0 : Int))).1 == (3 : Int)) then ((F40 n m2 m1 m1_2 m1_3 m1_4 m1_5).bind fun y_12 => ((loopF (F42_l7 n turns) n7) ((IntKind.wrap .i64 (x + (1 : Int))), y_12.1, y_12.2.1, y_12.2.2.1, y_12.2.2.2.1, y_12.2.2.2.2.1, y_12.2.2.2.2.2.2, m3))) else (some ((0 : Int), (0 : Int), (0 : Int), (0 : Int), (0 : Int), (1 : Int), ([] : List (Int × Int × Bool)), ([] : List Int)))))) else none) else (some (m1, m1_2, m1_3, m1_4, m1_5, (0 : Int), m2, m3))) = some r := h
        refine TS.seq ?_
        have hq : (True) ∧ (True) := ⟨trivial, trivial⟩
        refine TS.reg [] ?_ ?_
        · apply prop_of ?_ hq
          kernel_rfl
        refine XS.then ?_
        refine TS.seq ?_
        rcases bif_some h with ⟨c6, h⟩ | ⟨c7, h⟩
        · refine TS.cond (decide (x < ((turns.length : Nat) : Int))) ?_ (fun e => ?_) (fun e => by rw [c6] at e; cases e)
          · kernel_rfl
          refine TS.skip ?_
          refine XS.then ?_
          refine TS.seq ?_
          refine TS.block ?_
          refine TS.seq ?_
          obtain ⟨t8, h⟩ := test_some h
          have hq : (inR x turns.length) ∧ ((True) ∧ ((True) ∧ ((True) ∧ (True)))) := ⟨inb_ok t8, ⟨trivial, ⟨trivial, ⟨trivial, trivial⟩⟩⟩⟩
          refine TS.reg [] ?_ ?_
          · apply prop_of ?_ hq
            kernel_rfl
          refine XS.then ?_
          refine TS.seq ?_
          have hq : (True) ∧ ((True) ∧ (True)) := ⟨trivial, ⟨trivial, trivial⟩⟩
          refine TS.reg [] ?_ ?_
          · apply prop_of ?_ hq
            kernel_rfl
          refine XS.then ?_
          refine TS.block ?_
          refine TS.seq ?_
          have hq : (True) ∧ ((True) ∧ (True)) := ⟨trivial, ⟨trivial, trivial⟩⟩
          refine TS.reg [] ?_ ?_
          · apply prop_of ?_ hq
            kernel_rfl
          refine XS.then ?_
          rcases bif_some h with ⟨c9, h⟩ | ⟨c10, h⟩
          · refine TS.cond ((turns.getD x.toNat ((0 : Int), (0 : Int))).1 == (1 : Int)) ?_ (fun e => ?_) (fun e => by rw [c9] at e; cases e)
            · kernel_rfl
            refine TS.seq ?_
            obtain ⟨y_10, hx11, h⟩ := bind_some' h
            have hq : (True) ∧ ((True) ∧ ((True) ∧ (((((True) ∧ (((True) ∧ (True)) ∧ (((True) ∧ (True)) ∧ (True)))) ∧ ((True) ∧ (True))) ∧ PureC Try.prog 34 [(.st (.cons (.sl (.st (.pair (.int .u64) (.pair (.int .i64) .bool))) m2) (.cons (.st (.cons (.int .i64 m1) (.int .i64 m1_2))) (.cons (.st (.cons (.int .i64 m1_3) (.int .i64 m1_4))) (.int .i64 m1_5))))), (.int .u64 (turns.getD x.toNat ((0 : Int), (0 : Int))).2)] (.tup (.cons (.st (.cons (.row 0) (.cons (.st (.cons (.int .i64 y_10.1) (.int .i64 y_10.2.1))) (.cons (.st (.cons (.int .i64 y_10.2.2.1) (.int .i64 y_10.2.2.2.1))) (.int .i64 y_10.2.2.2.2.1))))) (.cons (.int .i64 y_10.2.2.2.2.2.1) .nil))) [(.row 75 (.st (.pair (.int .u64) (.pair (.int .i64) .bool))) y_10.2.2.2.2.2.2)]) ∧ ((True) ∧ ((True) ∧ ((True) ∧ ((True) ∧ ((True) ∧ ((True) ∧ (True)))))))))) := ⟨trivial, ⟨trivial, ⟨trivial, ⟨⟨⟨⟨trivial, ⟨⟨trivial, trivial⟩, ⟨⟨trivial, trivial⟩, trivial⟩⟩⟩, ⟨trivial, trivial⟩⟩, F34_ok n m2 m1 m1_2 m1_3 m1_4 m1_5 ((turns.getD x.toNat ((0 : Int), (0 : Int))).2) y_10 hx11⟩, ⟨trivial, ⟨trivial, ⟨trivial, ⟨trivial, ⟨trivial, ⟨trivial, trivial⟩⟩⟩⟩⟩⟩⟩⟩⟩⟩
            refine TS.reg [.none, .none, .none, (.call (.tup (.cons (.st (.cons (.row 0) (.cons (.st (.cons (.int .i64 y_10.1) (.int .i64 y_10.2.1))) (.cons (.st (.cons (.int .i64 y_10.2.2.1) (.int .i64 y_10.2.2.2.1))) (.int .i64 y_10.2.2.2.2.1))))) (.cons (.int .i64 y_10.2.2.2.2.2.1) .nil))) [(.row 75 (.st (.pair (.int .u64) (.pair (.int .i64) .bool))) y_10.2.2.2.2.2.2)])] ?_ ?_
            · apply prop_of ?_ hq
              kernel_rfl
            refine XS.then ?_
            refine TS.seq ?_
            have hq : (True) ∧ ((True) ∧ (True)) := ⟨trivial, ⟨trivial, trivial⟩⟩
            refine TS.reg [] ?_ ?_
            · apply prop_of ?_ hq
              kernel_rfl
            refine XS.then ?_
            rcases bif_some h with ⟨c12, h⟩ | ⟨c13, h⟩
            · refine TS.cond (y_10.2.2.2.2.2.1 == (0 : Int)) ?_ (fun e => ?_) (fun e => by rw [c12] at e; cases e)
              · kernel_rfl
              have hq : (True) ∧ ((True) ∧ (True)) := ⟨trivial, ⟨trivial, trivial⟩⟩
              refine TS.reg [] ?_ ?_
              · apply prop_of ?_ hq
                kernel_rfl
              refine XS.blockEnd ?_
              refine XS.blockEnd ?_
              refine XS.then ?_
              have hq : (True) ∧ ((True) ∧ (True)) := ⟨trivial, ⟨trivial, trivial⟩⟩
              refine TS.reg [] ?_ ?_
              · apply prop_of ?_ hq
                kernel_rfl
              refine XS.reAny [0, 1, 5, 3] (mkMask 77 [4, 7, 9, 31, 32, 33]) ((IntKind.wrap .i64 (x + (1 : Int))), y_10.1, y_10.2.1, y_10.2.2.1, y_10.2.2.2.1, y_10.2.2.2.2.1, y_10.2.2.2.2.2.2, m3) h ?_
              kernel_rfl
            · refine TS.cond (y_10.2.2.2.2.2.1 == (0 : Int)) ?_ (fun e => by rw [c13] at e; cases e) (fun e => ?_)
              · kernel_rfl
              refine TS.skip ?_
              refine XS.blockEnd ?_
              refine XS.blockEnd ?_
              refine XS.then ?_
              have hq : (True) ∧ ((True) ∧ (True)) := ⟨trivial, ⟨trivial, trivial⟩⟩
              refine TS.reg [] ?_ ?_
              · apply prop_of ?_ hq
                kernel_rfl
              refine XS.reAny [0, 1, 2, 3] (mkMask 77 [4, 7, 9, 31, 32, 33]) ((IntKind.wrap .i64 (x + (1 : Int))), m1, m1_2, m1_3, m1_4, m1_5, m2, m3) h ?_
              kernel_rfl
          · refine TS.cond ((turns.getD x.toNat ((0 : Int), (0 : Int))).1 == (1 : Int)) ?_ (fun e => by rw [c10] at e; cases e) (fun e => ?_)
            · kernel_rfl
            refine TS.seq ?_
            have hq : (True) ∧ ((True) ∧ (True)) := ⟨trivial, ⟨trivial, trivial⟩⟩
            refine TS.reg [] ?_ ?_
            · apply prop_of ?_ hq
              kernel_rfl
            refine XS.then ?_
            rcases bif_some h with ⟨c14, h⟩ | ⟨c15, h⟩
            · refine TS.cond ((turns.getD x.toNat ((0 : Int), (0 : Int))).1 == (2 : Int)) ?_ (fun e => ?_) (fun e => by rw [c14] at e; cases e)
              · kernel_rfl
              refine TS.seq ?_
              obtain ⟨y_11, hx16, h⟩ := bind_some' h
              have hq : (True) ∧ (((((True) ∧ (((True) ∧ (True)) ∧ (((True) ∧ (True)) ∧ (True)))) ∧ (True)) ∧ PureC Try.prog 39 [(.st (.cons (.sl (.st (.pair (.int .u64) (.pair (.int .i64) .bool))) m2) (.cons (.st (.cons (.int .i64 m1) (.int .i64 m1_2))) (.cons (.st (.cons (.int .i64 m1_3) (.int .i64 m1_4))) (.int .i64 m1_5)))))] (.tup (.cons (.st (.cons (.row 0) (.cons (.st (.cons (.int .i64 y_11.1) (.int .i64 y_11.2.1))) (.cons (.st (.cons (.int .i64 y_11.2.2.1) (.int .i64 y_11.2.2.2.1))) (.int .i64 y_11.2.2.2.2.1))))) (.cons (.int .u64 y_11.2.2.2.2.2.1) (.cons (.bool y_11.2.2.2.2.2.2.1) (.cons (.int .i64 y_11.2.2.2.2.2.2.2.1) .nil))))) [(.row 75 (.st (.pair (.int .u64) (.pair (.int .i64) .bool))) y_11.2.2.2.2.2.2.2.2)]) ∧ ((True) ∧ ((True) ∧ ((True) ∧ ((True) ∧ ((True) ∧ ((True) ∧ ((True) ∧ ((True) ∧ ((True) ∧ ((True) ∧ (True)))))))))))) := ⟨trivial, ⟨⟨⟨⟨trivial, ⟨⟨trivial, trivial⟩, ⟨⟨trivial, trivial⟩, trivial⟩⟩⟩, trivial⟩, F39_ok n m2 m1 m1_2 m1_3 m1_4 m1_5 y_11 hx16⟩, ⟨trivial, ⟨trivial, ⟨trivial, ⟨trivial, ⟨trivial, ⟨trivial, ⟨trivial, ⟨trivial, ⟨trivial, ⟨trivial, trivial⟩⟩⟩⟩⟩⟩⟩⟩⟩⟩⟩⟩
              refine TS.reg [.none, (.call (.tup (.cons (.st (.cons (.row 0) (.cons (.st (.cons (.int .i64 y_11.1) (.int .i64 y_11.2.1))) (.cons (.st (.cons (.int .i64 y_11.2.2.1) (.int .i64 y_11.2.2.2.1))) (.int .i64 y_11.2.2.2.2.1))))) (.cons (.int .u64 y_11.2.2.2.2.2.1) (.cons (.bool y_11.2.2.2.2.2.2.1) (.cons (.int .i64 y_11.2.2.2.2.2.2.2.1) .nil))))) [(.row 75 (.st (.pair (.int .u64) (.pair (.int .i64) .bool))) y_11.2.2.2.2.2.2.2.2)])] ?_ ?_
              · apply prop_of ?_ hq
                kernel_rfl
              refine XS.then ?_
              refine TS.seq ?_
              refine TS.seq ?_
              have hq : (True) ∧ (True) := ⟨trivial, trivial⟩
              refine TS.reg [] ?_ ?_
              · apply prop_of ?_ hq
                kernel_rfl
              refine XS.then ?_
              refine TS.cut (D := List Int) (fun d => match d with | m3_2 => (mkTs 77 [(4, (.ptr 0 [])), (7, (.ptr 1 [])), (9, (.row 3)), (14, (.ptr 4 [])), (31, (.sl (.st (.pair (.int .i64) (.int .u64))) turns)), (32, (.int .i64 ((turns.length : Nat) : Int))), (33, (.int .i64 x))], [(.box 65 (.st (.cons .nilS (.cons (.st (.cons (.int .i64 (0 : Int)) (.int .i64 (0 : Int)))) (.cons (.st (.cons (.int .i64 (0 : Int)) (.int .i64 (0 : Int)))) (.int .i64 (0 : Int))))))), (.box 65 (.st (.cons (.row 2) (.cons (.st (.cons (.int .i64 m1) (.int .i64 m1_2))) (.cons (.st (.cons (.int .i64 m1_3) (.int .i64 m1_4))) (.int .i64 m1_5)))))), (.row 75 (.st (.pair (.int .u64) (.pair (.int .i64) .bool))) m2), (.row 24 (.int .u64) m3_2), (.box 65 (.st (.cons (.row 5) (.cons (.st (.cons (.int .i64 y_11.1) (.int .i64 y_11.2.1))) (.cons (.st (.cons (.int .i64 y_11.2.2.1) (.int .i64 y_11.2.2.2.1))) (.int .i64 y_11.2.2.2.2.1)))))), (.row 75 (.st (.pair (.int .u64) (.pair (.int .i64) .bool))) y_11.2.2.2.2.2.2.2.2)])) (fun d => F42_j8 n (loopF (F42_l7 n turns) n7) x y_11 d = some r) ?_ ?_
              · rintro m3_2 h
                replace h : ((loopF (F42_l7 n turns) n7) ((IntKind.wrap .i64 (x + (1 : Int))), y_11.1, y_11.2.1, y_11.2.2.1, y_11.2.2.2.1, y_11.2.2.2.2.1, y_11.2.2.2.2.2.2.2.2, m3_2)) = some r := h
                refine XS.then ?_
                have hq : (True) ∧ ((True) ∧ (True)) := ⟨trivial, ⟨trivial, trivial⟩⟩
                refine TS.reg [] ?_ ?_
                · apply prop_of ?_ hq
                  kernel_rfl
                refine XS.blockEnd ?_
                refine XS.blockEnd ?_
                refine XS.then ?_
                have hq : (True) ∧ ((True) ∧ (True)) := ⟨trivial, ⟨trivial, trivial⟩⟩
                refine TS.reg [] ?_ ?_
                · apply prop_of ?_ hq
                  kernel_rfl
                refine XS.reAny [0, 1, 5, 3] (mkMask 77 [4, 7, 9, 31, 32, 33]) ((IntKind.wrap .i64 (x + (1 : Int))), y_11.1, y_11.2.1, y_11.2.2.1, y_11.2.2.2.1, y_11.2.2.2.2.1, y_11.2.2.2.2.2.2.2.2, m3_2) h ?_
                kernel_rfl
              · rcases bif_some h with ⟨c17, h⟩ | ⟨c18, h⟩
                · refine TS.cond y_11.2.2.2.2.2.2.1 ?_ (fun e => ?_) (fun e => by rw [c17] at e; cases e)
                  · kernel_rfl
                  obtain ⟨t19, h⟩ := test_some h
                  have hq : (True) ∧ ((True) ∧ (((0 < 1 ∧ True) ∧ (True)) ∧ ((m3.length + [y_11.2.2.2.2.2.1].length ≤ 17179869184) ∧ ((True) ∧ (True))))) := ⟨trivial, ⟨trivial, ⟨⟨⟨by decide, trivial⟩, trivial⟩, ⟨of_decide_eq_true t19, ⟨trivial, trivial⟩⟩⟩⟩⟩
                  refine TS.reg [] ?_ ?_
                  · apply prop_of ?_ hq
                    kernel_rfl
                  refine XS.reAny [0, 1, 2, 8, 6, 5] (mkMask 77 [4, 7, 9, 14, 31, 32, 33]) (m3 ++ [y_11.2.2.2.2.2.1]) h ?_
                  kernel_rfl
                · refine TS.cond y_11.2.2.2.2.2.2.1 ?_ (fun e => by rw [c18] at e; cases e) (fun e => ?_)
                  · kernel_rfl
                  refine TS.skip ?_
                  refine XS.reAny [0, 1, 2, 3, 6, 5] (mkMask 77 [4, 7, 9, 14, 31, 32, 33]) m3 h ?_
                  kernel_rfl
            · refine TS.cond ((turns.getD x.toNat ((0 : Int), (0 : Int))).1 == (2 : Int)) ?_ (fun e => by rw [c15] at e; cases e) (fun e => ?_)
              · kernel_rfl
              refine TS.seq ?_
              have hq : (True) ∧ ((True) ∧ (True)) := ⟨trivial, ⟨trivial, trivial⟩⟩
              refine TS.reg [] ?_ ?_
              · apply prop_of ?_ hq
                kernel_rfl
              refine XS.then ?_
              rcases bif_some h with ⟨c20, h⟩ | ⟨c21, h⟩
              · refine TS.cond ((turns.getD x.toNat ((0 : Int), (0 : Int))).1 == (3 : Int)) ?_ (fun e => ?_) (fun e => by rw [c20] at e; cases e)
                · kernel_rfl
                obtain ⟨y_12, hx22, h⟩ := bind_some' h
                have hq : (True) ∧ (((((True) ∧ (((True) ∧ (True)) ∧ (((True) ∧ (True)) ∧ (True)))) ∧ (True)) ∧ PureC Try.prog 40 [(.st (.cons (.sl (.st (.pair (.int .u64) (.pair (.int .i64) .bool))) m2) (.cons (.st (.cons (.int .i64 m1) (.int .i64 m1_2))) (.cons (.st (.cons (.int .i64 m1_3) (.int .i64 m1_4))) (.int .i64 m1_5)))))] (.tup (.cons (.st (.cons (.row 0) (.cons (.st (.cons (.int .i64 y_12.1) (.int .i64 y_12.2.1))) (.cons (.st (.cons (.int .i64 y_12.2.2.1) (.int .i64 y_12.2.2.2.1))) (.int .i64 y_12.2.2.2.2.1))))) (.cons (.int .i64 y_12.2.2.2.2.2.1) .nil))) [(.row 75 (.st (.pair (.int .u64) (.pair (.int .i64) .bool))) y_12.2.2.2.2.2.2)]) ∧ ((True) ∧ ((True) ∧ ((True) ∧ ((True) ∧ (True)))))) := ⟨trivial, ⟨⟨⟨⟨trivial, ⟨⟨trivial, trivial⟩, ⟨⟨trivial, trivial⟩, trivial⟩⟩⟩, trivial⟩, F40_ok n m2 m1 m1_2 m1_3 m1_4 m1_5 y_12 hx22⟩, ⟨trivial, ⟨trivial, ⟨trivial, ⟨trivial, trivial⟩⟩⟩⟩⟩⟩
                refine TS.reg [.none, (.call (.tup (.cons (.st (.cons (.row 0) (.cons (.st (.cons (.int .i64 y_12.1) (.int .i64 y_12.2.1))) (.cons (.st (.cons (.int .i64 y_12.2.2.1) (.int .i64 y_12.2.2.2.1))) (.int .i64 y_12.2.2.2.2.1))))) (.cons (.int .i64 y_12.2.2.2.2.2.1) .nil))) [(.row 75 (.st (.pair (.int .u64) (.pair (.int .i64) .bool))) y_12.2.2.2.2.2.2)])] ?_ ?_
                · apply prop_of ?_ hq
                  kernel_rfl
                refine XS.blockEnd ?_
                refine XS.blockEnd ?_
                refine XS.then ?_
                have hq : (True) ∧ ((True) ∧ (True)) := ⟨trivial, ⟨trivial, trivial⟩⟩
                refine TS.reg [] ?_ ?_
                · apply prop_of ?_ hq
                  kernel_rfl
                refine XS.reAny [0, 1, 5, 3] (mkMask 77 [4, 7, 9, 31, 32, 33]) ((IntKind.wrap .i64 (x + (1 : Int))), y_12.1, y_12.2.1, y_12.2.2.1, y_12.2.2.2.1, y_12.2.2.2.2.1, y_12.2.2.2.2.2.2, m3) h ?_
                kernel_rfl
              · refine TS.cond ((turns.getD x.toNat ((0 : Int), (0 : Int))).1 == (3 : Int)) ?_ (fun e => by rw [c21] at e; cases e) (fun e => ?_)
                · kernel_rfl
                refine TS.seq ?_
                have hq : (True) ∧ ((True) ∧ ((True) ∧ ((True) ∧ (True)))) := ⟨trivial, ⟨trivial, ⟨trivial, ⟨trivial, trivial⟩⟩⟩⟩
                refine TS.reg [] ?_ ?_
                · apply prop_of ?_ hq
                  kernel_rfl
                refine XS.then ?_
                refine TS.ret ?_
                refine XS.blockRet ?_
                refine XS.blockRet ?_
                refine XS.passR ?_
                refine XS.passR ?_
                refine XS.blockRet ?_
                refine XS.passR ?_
                obtain rfl : ((0 : Int), (0 : Int), (0 : Int), (0 : Int), (0 : Int), (1 : Int), ([] : List (Int × Int × Bool)), ([] : List Int)) = r := Option.some.inj h
                refine XS.wk (.row true 0 [false] 75 (.st (.pair (.int .u64) (.pair (.int .i64) .bool)))) ?_
                refine XS.wk (.row false 5 [] 24 (.int .u64)) ?_
                exact XS.fin [5, 6] ((True) ∧ ((True) ∧ ((True) ∧ (True)))) (by kernel_rfl) ⟨trivial, ⟨trivial, ⟨trivial, trivial⟩⟩⟩
        · refine TS.cond (decide (x < ((turns.length : Nat) : Int))) ?_ (fun e => by rw [c7] at e; cases e) (fun e => ?_)
          · kernel_rfl
          refine TS.exit ?_
          refine XS.passE ?_
          refine XS.passE ?_
          refine XS.out ?_
          refine XS.then ?_
          refine TS.seq ?_
          have hq : (True) ∧ ((True) ∧ ((True) ∧ ((True) ∧ ((True) ∧ (True))))) := ⟨trivial, ⟨trivial, ⟨trivial, ⟨trivial, ⟨trivial, trivial⟩⟩⟩⟩⟩
          refine TS.reg [] ?_ ?_
          · apply prop_of ?_ hq
            kernel_rfl
          refine XS.then ?_
          refine TS.ret ?_
          obtain rfl : (m1, m1_2, m1_3, m1_4, m1_5, (0 : Int), m2, m3) = r := Option.some.inj h
          exact XS.fin [2, 3] ((True) ∧ ((True) ∧ ((True) ∧ (True)))) (by kernel_rfl) ⟨trivial, ⟨trivial, ⟨trivial, trivial⟩⟩⟩

/-! plugtree/plugref.Between -/
def F19 (n : Nat) (vn : Int) (low : Int) (high : Int) : Option Bool := (bif (decide (low ≤ vn)) then (some (decide (vn ≤ high))) else (some false))
theorem F19_ok (n : Nat) (vn : Int) (low : Int) (high : Int) (r : Bool) (h : F19 n vn low high = some r) : PureC Try.prog 19 [(.int .i64 vn), (.int .i64 low), (.int .i64 high)] (.bool r) [] := by
  refine PureC.mkS Try.func19 rfl rfl ?_
  intro w0 fz0 hfz
  replace h : (bif (decide (low ≤ vn)) then (some (decide (vn ≤ high))) else (some false)) = some r := h
  refine TS.seq ?_
  have hq : (True) ∧ (True) := ⟨trivial, trivial⟩
  refine TS.reg [] ?_ ?_
  · apply prop_of ?_ hq
    kernel_rfl
  refine XS.then ?_
  refine TS.seq ?_
  rcases bif_some h with ⟨c1, h⟩ | ⟨c2, h⟩
  · have hq : (True) ∧ ((True) ∧ ((True) ∧ (((True) ∧ (decide (low ≤ vn)) = true) ∧ ((True) ∧ ((True) ∧ ((True) ∧ ((True) ∧ ((True) ∧ (True))))))))) := ⟨trivial, ⟨trivial, ⟨trivial, ⟨⟨trivial, c1⟩, ⟨trivial, ⟨trivial, ⟨trivial, ⟨trivial, ⟨trivial, trivial⟩⟩⟩⟩⟩⟩⟩⟩⟩
    refine TS.reg [.none, .none, .none, .dec true] ?_ ?_
    · apply prop_of ?_ hq
      kernel_rfl
    refine XS.then ?_
    refine TS.ret ?_
    obtain rfl : (decide (vn ≤ high)) = r := Option.some.inj h
    exact XS.fin [] ((True) ∧ (True)) (by kernel_rfl) ⟨trivial, trivial⟩
  · have hq : (True) ∧ ((True) ∧ ((True) ∧ (((True) ∧ (decide (low ≤ vn)) = false) ∧ ((True) ∧ ((True) ∧ (True)))))) := ⟨trivial, ⟨trivial, ⟨trivial, ⟨⟨trivial, c2⟩, ⟨trivial, ⟨trivial, trivial⟩⟩⟩⟩⟩⟩
    refine TS.reg [.none, .none, .none, .dec false] ?_ ?_
    · apply prop_of ?_ hq
      kernel_rfl
    refine XS.then ?_
    refine TS.ret ?_
    obtain rfl : false = r := Option.some.inj h
    exact XS.fin [] ((True) ∧ (True)) (by kernel_rfl) ⟨trivial, trivial⟩

/-! plugtree/plugref.RingPlay$1 -/
def F81 (n : Nat) (k : Int) (x : Int) : Option (Int × Int) := (bif (x != 0) then (some ((k.tmod x), ((IntKind.wrap .i64 ((IntKind.wrap .i64 (k.tdiv x)) + (1 : Int))).tmod (2 : Int)))) else none)
theorem F81_ok (n : Nat) (k : Int) (x : Int) (r : Int × Int) (h : F81 n k x = some r) : PureC Try.prog 81 [(.int .i64 k), (.pv (.int .i64 x))] (.st (.cons (.int .i64 r.1) (.int .i64 r.2))) [] := by
  refine PureC.mkS Try.func81 rfl rfl ?_
  intro w0 fz0 hfz
  replace h : (bif (x != 0) then (some ((k.tmod x), ((IntKind.wrap .i64 ((IntKind.wrap .i64 (k.tdiv x)) + (1 : Int))).tmod (2 : Int)))) else none) = some r := h
  refine TS.seq ?_
  have hq : (True) ∧ (True) := ⟨trivial, trivial⟩
  refine TS.reg [] ?_ ?_
  · apply prop_of ?_ hq
    kernel_rfl
  refine XS.then ?_
  refine TS.seq ?_
  obtain ⟨t1, h⟩ := test_some h
  have hq : ((True) ∧ ((True) ∧ ((x ≠ 0) ∧ ((True) ∧ ((True) ∧ ((x ≠ 0) ∧ ((True) ∧ (((2 : Int) ≠ 0) ∧ (((True) ∧ ((True) ∧ (True))) ∧ (True)))))))))) ∧ ((True) ∧ (True)) := ⟨⟨trivial, ⟨trivial, ⟨bne_ok t1, ⟨trivial, ⟨trivial, ⟨bne_ok t1, ⟨trivial, ⟨by decide, ⟨⟨trivial, ⟨trivial, trivial⟩⟩, trivial⟩⟩⟩⟩⟩⟩⟩⟩⟩, ⟨trivial, trivial⟩⟩
  refine TS.draw 9 [] [] (by kernel_rfl) ?_ ?_
  · apply prop_of ?_ hq
    kernel_rfl
  refine XS.then ?_
  refine TS.ret ?_
  obtain rfl : ((k.tmod x), ((IntKind.wrap .i64 ((IntKind.wrap .i64 (k.tdiv x)) + (1 : Int))).tmod (2 : Int))) = r := Option.some.inj h
  exact XS.fin [] ((True) ∧ (True)) (by kernel_rfl) ⟨trivial, trivial⟩

/-! slices.Clone[[]uint64,uint64] -/
def F82 (n : Nat) (s : List Int) : Option (List Int) := (bif (decide (([] : List Int).length + s.length ≤ 17179869184)) then (some (([] : List Int) ++ s)) else none)
theorem F82_ok (n : Nat) (s : List Int) (r : List Int) (h : F82 n s = some r) : PureC Try.prog 82 [(.sl (.int .u64) s)] (.row 0) [(.row 24 (.int .u64) r)] := by
  refine PureC.mkS Try.func82 rfl rfl ?_
  intro w0 fz0 hfz
  replace h : (bif (decide (([] : List Int).length + s.length ≤ 17179869184)) then (some (([] : List Int) ++ s)) else none) = some r := h
  refine TS.seq ?_
  have hq : (True) ∧ (True) := ⟨trivial, trivial⟩
  refine TS.reg [] ?_ ?_
  · apply prop_of ?_ hq
    kernel_rfl
  refine XS.then ?_
  refine TS.seq ?_
  refine TS.seq ?_
  have hq : (True) ∧ (True) := ⟨trivial, trivial⟩
  refine TS.nilReg 1 [] (.int .u64) s ?_ (by kernel_rfl) ?_
  · apply prop_of ?_ hq
    kernel_rfl
  · intro b2 hb4
    cases b2
    · clear hb4
      refine XS.then ?_
      refine TS.no ?_ ?_
      · kernel_rfl
      refine TS.skip ?_
      refine XS.then ?_
      refine TS.seq ?_
      obtain ⟨t1, h⟩ := test_some h
      have hq : (True) ∧ ((True) ∧ ((([] : List Int).length + s.length ≤ 17179869184) ∧ ((True) ∧ (True)))) := ⟨trivial, ⟨trivial, ⟨of_decide_eq_true t1, ⟨trivial, trivial⟩⟩⟩⟩
      refine TS.reg [] ?_ ?_
      · apply prop_of ?_ hq
        kernel_rfl
      refine XS.then ?_
      refine TS.ret ?_
      obtain rfl : (([] : List Int) ++ s) = r := Option.some.inj h
      exact XS.fin [1] ((True) ∧ (True)) (by kernel_rfl) ⟨trivial, trivial⟩
    · have e3 := hb4 rfl
      replace h : (some ([] : List Int)) = some r := by first | exact h | (rw [e3] at h ⊢; exact h) | simpa [e3] using h
      refine XS.then ?_
      refine TS.yes ?_ ?_
      · kernel_rfl
      refine TS.seq ?_
      have hq : (True) ∧ (True) := ⟨trivial, trivial⟩
      refine TS.reg [] ?_ ?_
      · apply prop_of ?_ hq
        kernel_rfl
      refine XS.then ?_
      refine TS.ret ?_
      refine XS.passR ?_
      obtain rfl : ([] : List Int) = r := Option.some.inj h
      refine XS.wk (.row false 2 [] 24 (.int .u64)) ?_
      exact XS.fin [0] ((True) ∧ (True)) (by kernel_rfl) ⟨trivial, trivial⟩

/-! plugtree/plugref.RingPlay -/
def F43_l10 (n : Nat) (cells : Int) (got : Int) (seen : Int) (m2 : List Int) (y_10 : Int × Int) (y_11 : Int × Int) (k43_10 : (Int × (List (Int × Int × Bool))) → Option (Int × Int × Int × Int × Int × Int × (List (Int × Int × Bool)) × (List Int))) : (Int × (List (Int × Int × Bool))) → Option (Int × Int × Int × Int × Int × Int × (List (Int × Int × Bool)) × (List Int))
  | (x_2, m4) => (bif (decide (x_2 < ((m2.length : Nat) : Int))) then (bif inb x_2 m2.length then ((F81 n x_2 (IntKind.wrap .i64 (cells - (1 : Int)))).bind fun y_12 => (bif inb (x_2.tmod (IntKind.wrap .i64 (cells - (1 : Int)))) m4.length then (k43_10 ((IntKind.wrap .i64 (x_2 + (1 : Int))), (m4.set ((x_2.tmod (IntKind.wrap .i64 (cells - (1 : Int)))).toNat) ((m2.getD x_2.toNat (0 : Int)), (y_12.2, false))))) else none)) else none) else (bif inb (IntKind.wrap .i64 (cells - (1 : Int))) m4.length then (bif subB m2.length none (some got) then ((F82 n (m2.take got.toNat)).bind fun y_13 => (some (y_10.1, y_10.2, y_11.1, y_11.2, (seen.tmod (IntKind.wrap .i64 (cells - (1 : Int)))), (0 : Int), (m4.set ((IntKind.wrap .i64 (cells - (1 : Int))).toNat) ((0 : Int), (((IntKind.wrap .i64 (((m2.length : Nat) : Int).tdiv (IntKind.wrap .i64 (cells - (1 : Int))))).tmod (2 : Int)), true))), y_13))) else none) else none))
def F43_l9 (n : Nat) (cells : Int) (turns : List (Int × Int)) (k43_9 : (Int × Int × Int × (List Int)) → Option (Int × Int × Int × Int × Int × Int × (List (Int × Int × Bool)) × (List Int))) : (Int × Int × Int × (List Int)) → Option (Int × Int × Int × Int × Int × Int × (List (Int × Int × Bool)) × (List Int))
  | (got, seen, x, m2) => (bif (decide (x < ((turns.length : Nat) : Int))) then (bif inb x turns.length then (bif ((turns.getD x.toNat ((0 : Int), (0 : Int))).1 == (1 : Int)) then (bif (decide ((IntKind.wrap .i64 (((m2.length : Nat) : Int) - seen)) < (IntKind.wrap .i64 ((IntKind.wrap .i64 (cells - (1 : Int))) - (1 : Int))))) then (bif (decide (m2.length + [(turns.getD x.toNat ((0 : Int), (0 : Int))).2].length ≤ 17179869184)) then (k43_9 (got, seen, (IntKind.wrap .i64 (x + (1 : Int))), (m2 ++ [(turns.getD x.toNat ((0 : Int), (0 : Int))).2]))) else none) else (k43_9 (got, seen, (IntKind.wrap .i64 (x + (1 : Int))), m2))) else (bif ((turns.getD x.toNat ((0 : Int), (0 : Int))).1 == (2 : Int)) then (k43_9 ((if ((m2.length : Nat) : Int) < (IntKind.wrap .i64 (got + (1 : Int))) then ((m2.length : Nat) : Int) else (IntKind.wrap .i64 (got + (1 : Int)))), seen, (IntKind.wrap .i64 (x + (1 : Int))), m2)) else (bif ((turns.getD x.toNat ((0 : Int), (0 : Int))).1 == (3 : Int)) then (k43_9 (got, got, (IntKind.wrap .i64 (x + (1 : Int))), m2)) else (some ((0 : Int), (0 : Int), (0 : Int), (0 : Int), (0 : Int), (1 : Int), ([] : List (Int × Int × Bool)), ([] : List Int)))))) else none) else (bif (decide (0 ≤ cells ∧ cells ≤ 17179869184)) then ((F81 n ((m2.length : Nat) : Int) (IntKind.wrap .i64 (cells - (1 : Int)))).bind fun y_10 => ((F81 n got (IntKind.wrap .i64 (cells - (1 : Int)))).bind fun y_11 => (bif ((IntKind.wrap .i64 (cells - (1 : Int))) != 0) then (loopF (F43_l10 n cells got seen m2 y_10 y_11) n ((0 : Int), (List.replicate cells.toNat ((0 : Int), ((0 : Int), false))))) else none))) else none))
def F43 (n : Nat) (cells : Int) (turns : List (Int × Int)) : Option (Int × Int × Int × Int × Int × Int × (List (Int × Int × Bool)) × (List Int)) := ((F19 n cells (3 : Int) (64 : Int)).bind fun y_9 => (bif (!y_9) then (some ((0 : Int), (0 : Int), (0 : Int), (0 : Int), (0 : Int), (1 : Int), ([] : List (Int × Int × Bool)), ([] : List Int))) else (bif (decide (((turns.length : Nat) : Int) > (1000 : Int))) then (some ((0 : Int), (0 : Int), (0 : Int), (0 : Int), (0 : Int), (2 : Int), ([] : List (Int × Int × Bool)), ([] : List Int))) else (loopF (F43_l9 n cells turns) n ((0 : Int), (0 : Int), (0 : Int), ([] : List Int))))))
theorem F43_ok (n : Nat) (cells : Int) (turns : List (Int × Int)) (r : Int × Int × Int × Int × Int × Int × (List (Int × Int × Bool)) × (List Int)) (h : F43 n cells turns = some r) : PureC Try.prog 43 [(.int .i64 cells), (.sl (.st (.pair (.int .i64) (.int .u64))) turns)] (.tup (.cons (.st (.cons (.row 0) (.cons (.st (.cons (.int .i64 r.1) (.int .i64 r.2.1))) (.cons (.st (.cons (.int .i64 r.2.2.1) (.int .i64 r.2.2.2.1))) (.int .i64 r.2.2.2.2.1))))) (.cons (.row 1) (.cons (.int .i64 r.2.2.2.2.2.1) .nil)))) [(.row 75 (.st (.pair (.int .u64) (.pair (.int .i64) .bool))) r.2.2.2.2.2.2.1), (.row 24 (.int .u64) r.2.2.2.2.2.2.2)] := by
  refine PureC.mkS Try.func43 rfl rfl ?_
  intro w0 fz0 hfz
  replace h : ((F19 n cells (3 : Int) (64 : Int)).bind fun y_9 => (bif (!y_9) then (some ((0 : Int), (0 : Int), (0 : Int), (0 : Int), (0 : Int), (1 : Int), ([] : List (Int × Int × Bool)), ([] : List Int))) else (bif (decide (((turns.length : Nat) : Int) > (1000 : Int))) then (some ((0 : Int), (0 : Int), (0 : Int), (0 : Int), (0 : Int), (2 : Int), ([] : List (Int × Int × Bool)), ([] : List Int))) else (loopF (F43_l9 n cells turns) n ((0 : Int), (0 : Int), (0 : Int), ([] : List Int)))))) = some r := h
  refine TS.seq ?_
  have hq : (True) ∧ ((True) ∧ ((True) ∧ (True))) := ⟨trivial, ⟨trivial, ⟨trivial, trivial⟩⟩⟩
  refine TS.reg [] ?_ ?_
  · apply prop_of ?_ hq
    kernel_rfl
  refine XS.then ?_
  refine TS.seq ?_
  refine TS.seq ?_
  obtain ⟨y_9, hx1, h⟩ := bind_some' h
  have hq : (True) ∧ ((PureC Try.prog 19 [(.int .i64 cells), (.int .i64 (3 : Int)), (.int .i64 (64 : Int))] (.bool y_9) []) ∧ ((True) ∧ (True))) := ⟨trivial, ⟨F19_ok n cells (3 : Int) (64 : Int) y_9 hx1, ⟨trivial, trivial⟩⟩⟩
  refine TS.reg [.none, (.call (.bool y_9) [])] ?_ ?_
  · apply prop_of ?_ hq
    kernel_rfl
  refine XS.then ?_
  rcases bif_some h with ⟨c2, h⟩ | ⟨c3, h⟩
  · refine TS.cond (!y_9) ?_ (fun e => ?_) (fun e => by rw [c2] at e; cases e)
    · kernel_rfl
    refine TS.seq ?_
    have hq : (True) ∧ ((True) ∧ ((True) ∧ ((True) ∧ (True)))) := ⟨trivial, ⟨trivial, ⟨trivial, ⟨trivial, trivial⟩⟩⟩⟩
    refine TS.reg [] ?_ ?_
    · apply prop_of ?_ hq
      kernel_rfl
    refine XS.then ?_
    refine TS.ret ?_
    refine XS.passR ?_
    obtain rfl : ((0 : Int), (0 : Int), (0 : Int), (0 : Int), (0 : Int), (1 : Int), ([] : List (Int × Int × Bool)), ([] : List Int)) = r := Option.some.inj h
    refine XS.wk (.row true 0 [false] 75 (.st (.pair (.int .u64) (.pair (.int .i64) .bool)))) ?_
    refine XS.wk (.row false 5 [] 24 (.int .u64)) ?_
    exact XS.fin [1, 2] ((True) ∧ ((True) ∧ ((True) ∧ (True)))) (by kernel_rfl) ⟨trivial, ⟨trivial, ⟨trivial, trivial⟩⟩⟩
  · refine TS.cond (!y_9) ?_ (fun e => by rw [c3] at e; cases e) (fun e => ?_)
    · kernel_rfl
    refine TS.skip ?_
    refine XS.then ?_
    refine TS.seq ?_
    refine TS.seq ?_
    have hq : (True) ∧ ((True) ∧ ((True) ∧ (True))) := ⟨trivial, ⟨trivial, ⟨trivial, trivial⟩⟩⟩
    refine TS.reg [] ?_ ?_
    · apply prop_of ?_ hq
      kernel_rfl
    refine XS.then ?_
    rcases bif_some h with ⟨c4, h⟩ | ⟨c5, h⟩
    · refine TS.cond (decide (((turns.length : Nat) : Int) > (1000 : Int))) ?_ (fun e => ?_) (fun e => by rw [c4] at e; cases e)
      · kernel_rfl
      refine TS.seq ?_
      have hq : (True) ∧ ((True) ∧ ((True) ∧ ((True) ∧ (True)))) := ⟨trivial, ⟨trivial, ⟨trivial, ⟨trivial, trivial⟩⟩⟩⟩
      refine TS.reg [] ?_ ?_
      · apply prop_of ?_ hq
        kernel_rfl
      refine XS.then ?_
      refine TS.ret ?_
      refine XS.passR ?_
      obtain rfl : ((0 : Int), (0 : Int), (0 : Int), (0 : Int), (0 : Int), (2 : Int), ([] : List (Int × Int × Bool)), ([] : List Int)) = r := Option.some.inj h
      refine XS.wk (.row true 0 [false] 75 (.st (.pair (.int .u64) (.pair (.int .i64) .bool)))) ?_
      refine XS.wk (.row false 5 [] 24 (.int .u64)) ?_
      exact XS.fin [1, 2] ((True) ∧ ((True) ∧ ((True) ∧ (True)))) (by kernel_rfl) ⟨trivial, ⟨trivial, ⟨trivial, trivial⟩⟩⟩
    · refine TS.cond (decide (((turns.length : Nat) : Int) > (1000 : Int))) ?_ (fun e => by rw [c5] at e; cases e) (fun e => ?_)
      · kernel_rfl
      refine TS.skip ?_
      refine XS.then ?_
      refine TS.seq ?_
      have hq : (True) ∧ ((True) ∧ ((True) ∧ ((True) ∧ (True)))) := ⟨trivial, ⟨trivial, ⟨trivial, ⟨trivial, trivial⟩⟩⟩⟩
      refine TS.reg [] ?_ ?_
      · apply prop_of ?_ hq
        kernel_rfl
      refine XS.then ?_
      refine TS.seq ?_
      have hq : (True) ∧ (True) := ⟨trivial, trivial⟩
      refine TS.reg [] ?_ ?_
      · apply prop_of ?_ hq
        kernel_rfl
      refine XS.then ?_
      refine TS.seq ?_
      have hq : (True) ∧ ((True) ∧ (True)) := ⟨trivial, ⟨trivial, trivial⟩⟩
      refine TS.reg [] ?_ ?_
      · apply prop_of ?_ hq
        kernel_rfl
      refine XS.then ?_
      refine TS.seq ?_
      refine TS.seq ?_
      have hq : (True) ∧ ((True) ∧ ((True) ∧ (True))) := ⟨trivial, ⟨trivial, ⟨trivial, trivial⟩⟩⟩
      refine TS.reg [] ?_ ?_
      · apply prop_of ?_ hq
        kernel_rfl
      refine XS.then ?_
      refine TS.block ?_
      refine TS.wk (.row false 8 [] 24 (.int .u64)) ?_
      refine TS.reLoop [0, 1, 2] (mkMask 110 [0, 4, 7, 8, 9, 10, 27, 28, 29]) (D := Int × Int × Int × (List Int)) (fun d => match d with | (got, seen, x, m2) => (mkTs 110 [(0, (.int .i64 cells)), (4, (.ptr 0 [])), (7, (.ptr 1 [])), (8, (.row 2)), (9, (.int .i64 got)), (10, (.int .i64 seen)), (27, (.sl (.st (.pair (.int .i64) (.int .u64))) turns)), (28, (.int .i64 ((turns.length : Nat) : Int))), (29, (.int .i64 x))], [(.box 65 (.st (.cons .nilS (.cons (.st (.cons (.int .i64 (0 : Int)) (.int .i64 (0 : Int)))) (.cons (.st (.cons (.int .i64 (0 : Int)) (.int .i64 (0 : Int)))) (.int .i64 (0 : Int))))))), (.box 3 (.int .i64 (IntKind.wrap .i64 (cells - (1 : Int))))), (.row 24 (.int .u64) m2)])) (fun n' d => loopF (F43_l9 n cells turns) n' d = some r) n ((0 : Int), (0 : Int), (0 : Int), ([] : List Int)) h ?_ (fun d => loopF_zero _ d r) ?_
      · kernel_rfl
      · rintro n9 ⟨got, seen, x, m2⟩ h
        replace h : (bif (decide (x < ((turns.length : Nat) : Int))) then (bif inb x turns.length then (bif ((turns.getD x.toNat ((0 : Int), (0 : Int))).1 == (1 : Int)) then (bif (decide ((IntKind.wrap .i64 (((m2.length : Nat) : Int) - seen)) < (IntKind.wrap .i64 ((IntKind.wrap .i64 (cells - (1 : Int))) - (1 : Int))))) then (bif (decide (m2.length + [(turns.getD x.toNat ((0 : Int), (0 : Int))).2].length ≤ 17179869184)) then ((loopF (F43_l9 n cells turns) n9) (got, seen, (IntKind.wrap .i64 (x + (1 : Int))), (m2 ++ [(turns.getD x.toNat ((0 : Int), (0 : Int))).2]))) else none) else ((loopF (F43_l9 n cells turns) n9) (got, seen, (IntKind.wrap .i64 (x + (1 : Int))), m2))) else (bif ((turns.getD x.toNat ((0 : Int), (0 : Int))).1 == (2 : Int)) then ((loopF (F43_l9 n cells turns) n9) ((if ((m2.length : Nat) : Int) < (IntKind.wrap .i64 (got + (1 : Int))) then ((m2.length : Nat) : Int) else (IntKind.wrap .i64 (got + (1 : Int)))), seen, (IntKind.wrap .i64 (x + (1 : Int))), m2)) else (bif ((turns.getD x.toNat ((0 : Int), (0 : Int))).1 == (3 : Int)) then ((loopF (F43_l9 n cells turns) n9) (got, got, (IntKind.wrap .i64 (x + (1 : Int))), m2)) else (some ((0 : Int), (0 : Int), (0 : Int), (0 : Int), (0 : Int), (1 : Int), ([] : List (Int × Int × Bool)), ([] : List Int)))))) else none) else (bif (decide (0 ≤ cells ∧ cells ≤ 17179869184)) then ((F81 n ((m2.length : Nat) : Int) (IntKind.wrap .i64 (cells - (1 : Int)))).bind fun y_10 => ((F81 n got (IntKind.wrap .i64 (cells - (1 : Int)))).bind fun y_11 => (bif ((IntKind.wrap .i64 (cells - (1 : Int))) != 0) then (loopF (F43_l10 n cells got seen m2 y_10 y_11) n ((0 : Int), (List.replicate cells.toNat ((0 : Int), ((0 : Int), false))))) else none))) else none)) = some r := h
        refine TS.seq ?_
        have hq : (True) ∧ (True) := ⟨trivial, trivial⟩
        refine TS.reg [] ?_ ?_
        · apply prop_of ?_ hq
          kernel_rfl
        refine XS.then ?_
        refine TS.seq ?_
        rcases bif_some h with ⟨c6, h⟩ | ⟨c7, h⟩
        · refine TS.cond (decide (x < ((turns.length : Nat) : Int))) ?_ (fun e => ?_) (fun e => by rw [c6] at e; cases e)
          · kernel_rfl
          refine TS.skip ?_
          refine XS.then ?_
          refine TS.seq ?_
          refine TS.block ?_
          refine TS.seq ?_
          obtain ⟨t8, h⟩ := test_some h
          have hq : (inR x turns.length) ∧ ((True) ∧ ((True) ∧ ((True) ∧ (True)))) := ⟨inb_ok t8, ⟨trivial, ⟨trivial, ⟨trivial, trivial⟩⟩⟩⟩
          refine TS.reg [] ?_ ?_
          · apply prop_of ?_ hq
            kernel_rfl
          refine XS.then ?_
          refine TS.seq ?_
          have hq : (True) ∧ ((True) ∧ (True)) := ⟨trivial, ⟨trivial, trivial⟩⟩
          refine TS.reg [] ?_ ?_
          · apply prop_of ?_ hq
            kernel_rfl
          refine XS.then ?_
          refine TS.block ?_
          refine TS.seq ?_
          have hq : (True) ∧ ((True) ∧ (True)) := ⟨trivial, ⟨trivial, trivial⟩⟩
          refine TS.reg [] ?_ ?_
          · apply prop_of ?_ hq
            kernel_rfl
          refine XS.then ?_
          rcases bif_some h with ⟨c9, h⟩ | ⟨c10, h⟩
          · refine TS.cond ((turns.getD x.toNat ((0 : Int), (0 : Int))).1 == (1 : Int)) ?_ (fun e => ?_) (fun e => by rw [c9] at e; cases e)
            · kernel_rfl
            refine TS.seq ?_
            have hq : (True) ∧ ((True) ∧ ((True) ∧ ((True) ∧ ((True) ∧ ((True) ∧ ((True) ∧ (True))))))) := ⟨trivial, ⟨trivial, ⟨trivial, ⟨trivial, ⟨trivial, ⟨trivial, ⟨trivial, trivial⟩⟩⟩⟩⟩⟩⟩
            refine TS.reg [] ?_ ?_
            · apply prop_of ?_ hq
              kernel_rfl
            refine XS.then ?_
            rcases bif_some h with ⟨c11, h⟩ | ⟨c12, h⟩
            · refine TS.cond (decide ((IntKind.wrap .i64 (((m2.length : Nat) : Int) - seen)) < (IntKind.wrap .i64 ((IntKind.wrap .i64 (cells - (1 : Int))) - (1 : Int))))) ?_ (fun e => ?_) (fun e => by rw [c11] at e; cases e)
              · kernel_rfl
              obtain ⟨t13, h⟩ := test_some h
              have hq : (True) ∧ ((True) ∧ ((True) ∧ (((0 < 1 ∧ True) ∧ (True)) ∧ ((m2.length + [(turns.getD x.toNat ((0 : Int), (0 : Int))).2].length ≤ 17179869184) ∧ ((True) ∧ (True)))))) := ⟨trivial, ⟨trivial, ⟨trivial, ⟨⟨⟨by decide, trivial⟩, trivial⟩, ⟨of_decide_eq_true t13, ⟨trivial, trivial⟩⟩⟩⟩⟩⟩
              refine TS.reg [] ?_ ?_
              · apply prop_of ?_ hq
                kernel_rfl
              refine XS.blockEnd ?_
              refine XS.blockEnd ?_
              refine XS.then ?_
              have hq : (True) ∧ ((True) ∧ (True)) := ⟨trivial, ⟨trivial, trivial⟩⟩
              refine TS.reg [] ?_ ?_
              · apply prop_of ?_ hq
                kernel_rfl
              refine XS.reAny [0, 1, 5] (mkMask 110 [0, 4, 7, 8, 9, 10, 27, 28, 29]) (got, seen, (IntKind.wrap .i64 (x + (1 : Int))), (m2 ++ [(turns.getD x.toNat ((0 : Int), (0 : Int))).2])) h ?_
              kernel_rfl
            · refine TS.cond (decide ((IntKind.wrap .i64 (((m2.length : Nat) : Int) - seen)) < (IntKind.wrap .i64 ((IntKind.wrap .i64 (cells - (1 : Int))) - (1 : Int))))) ?_ (fun e => by rw [c12] at e; cases e) (fun e => ?_)
              · kernel_rfl
              refine TS.skip ?_
              refine XS.blockEnd ?_
              refine XS.blockEnd ?_
              refine XS.then ?_
              have hq : (True) ∧ ((True) ∧ (True)) := ⟨trivial, ⟨trivial, trivial⟩⟩
              refine TS.reg [] ?_ ?_
              · apply prop_of ?_ hq
                kernel_rfl
              refine XS.reAny [0, 1, 2] (mkMask 110 [0, 4, 7, 8, 9, 10, 27, 28, 29]) (got, seen, (IntKind.wrap .i64 (x + (1 : Int))), m2) h ?_
              kernel_rfl
          · refine TS.cond ((turns.getD x.toNat ((0 : Int), (0 : Int))).1 == (1 : Int)) ?_ (fun e => by rw [c10] at e; cases e) (fun e => ?_)
            · kernel_rfl
            refine TS.seq ?_
            have hq : (True) ∧ ((True) ∧ (True)) := ⟨trivial, ⟨trivial, trivial⟩⟩
            refine TS.reg [] ?_ ?_
            · apply prop_of ?_ hq
              kernel_rfl
            refine XS.then ?_
            rcases bif_some h with ⟨c14, h⟩ | ⟨c15, h⟩
            · refine TS.cond ((turns.getD x.toNat ((0 : Int), (0 : Int))).1 == (2 : Int)) ?_ (fun e => ?_) (fun e => by rw [c14] at e; cases e)
              · kernel_rfl
              have hq : (True) ∧ ((True) ∧ ((True) ∧ ((True) ∧ ((True) ∧ ((True) ∧ (True)))))) := ⟨trivial, ⟨trivial, ⟨trivial, ⟨trivial, ⟨trivial, ⟨trivial, trivial⟩⟩⟩⟩⟩⟩
              refine TS.reg [] ?_ ?_
              · apply prop_of ?_ hq
                kernel_rfl
              refine XS.blockEnd ?_
              refine XS.blockEnd ?_
              refine XS.then ?_
              have hq : (True) ∧ ((True) ∧ (True)) := ⟨trivial, ⟨trivial, trivial⟩⟩
              refine TS.reg [] ?_ ?_
              · apply prop_of ?_ hq
                kernel_rfl
              refine XS.reAny [0, 1, 2] (mkMask 110 [0, 4, 7, 8, 9, 10, 27, 28, 29]) ((if ((m2.length : Nat) : Int) < (IntKind.wrap .i64 (got + (1 : Int))) then ((m2.length : Nat) : Int) else (IntKind.wrap .i64 (got + (1 : Int)))), seen, (IntKind.wrap .i64 (x + (1 : Int))), m2) h ?_
              kernel_rfl
            · refine TS.cond ((turns.getD x.toNat ((0 : Int), (0 : Int))).1 == (2 : Int)) ?_ (fun e => by rw [c15] at e; cases e) (fun e => ?_)
              · kernel_rfl
              refine TS.seq ?_
              have hq : (True) ∧ ((True) ∧ (True)) := ⟨trivial, ⟨trivial, trivial⟩⟩
              refine TS.reg [] ?_ ?_
              · apply prop_of ?_ hq
                kernel_rfl
              refine XS.then ?_
              rcases bif_some h with ⟨c16, h⟩ | ⟨c17, h⟩
              · refine TS.cond ((turns.getD x.toNat ((0 : Int), (0 : Int))).1 == (3 : Int)) ?_ (fun e => ?_) (fun e => by rw [c16] at e; cases e)
                · kernel_rfl
                have hq : (True) ∧ ((True) ∧ (True)) := ⟨trivial, ⟨trivial, trivial⟩⟩
                refine TS.reg [] ?_ ?_
                · apply prop_of ?_ hq
                  kernel_rfl
                refine XS.blockEnd ?_
                refine XS.blockEnd ?_
                refine XS.then ?_
                have hq : (True) ∧ ((True) ∧ (True)) := ⟨trivial, ⟨trivial, trivial⟩⟩
                refine TS.reg [] ?_ ?_
                · apply prop_of ?_ hq
                  kernel_rfl
                refine XS.reAny [0, 1, 2] (mkMask 110 [0, 4, 7, 8, 9, 10, 27, 28, 29]) (got, got, (IntKind.wrap .i64 (x + (1 : Int))), m2) h ?_
                kernel_rfl
              · refine TS.cond ((turns.getD x.toNat ((0 : Int), (0 : Int))).1 == (3 : Int)) ?_ (fun e => by rw [c17] at e; cases e) (fun e => ?_)
                · kernel_rfl
                refine TS.seq ?_
                have hq : (True) ∧ ((True) ∧ ((True) ∧ ((True) ∧ (True)))) := ⟨trivial, ⟨trivial, ⟨trivial, ⟨trivial, trivial⟩⟩⟩⟩
                refine TS.reg [] ?_ ?_
                · apply prop_of ?_ hq
                  kernel_rfl
                refine XS.then ?_
                refine TS.ret ?_
                refine XS.blockRet ?_
                refine XS.blockRet ?_
                refine XS.passR ?_
                refine XS.passR ?_
                refine XS.blockRet ?_
                refine XS.passR ?_
                obtain rfl : ((0 : Int), (0 : Int), (0 : Int), (0 : Int), (0 : Int), (1 : Int), ([] : List (Int × Int × Bool)), ([] : List Int)) = r := Option.some.inj h
                refine XS.wk (.row true 0 [false] 75 (.st (.pair (.int .u64) (.pair (.int .i64) .bool)))) ?_
                refine XS.wk (.row false 5 [] 24 (.int .u64)) ?_
                exact XS.fin [4, 5] ((True) ∧ ((True) ∧ ((True) ∧ (True)))) (by kernel_rfl) ⟨trivial, ⟨trivial, ⟨trivial, trivial⟩⟩⟩
        · refine TS.cond (decide (x < ((turns.length : Nat) : Int))) ?_ (fun e => by rw [c7] at e; cases e) (fun e => ?_)
          · kernel_rfl
          refine TS.exit ?_
          refine XS.passE ?_
          refine XS.passE ?_
          refine XS.out ?_
          refine XS.then ?_
          refine TS.seq ?_
          have hq : (True) ∧ ((True) ∧ (True)) := ⟨trivial, ⟨trivial, trivial⟩⟩
          refine TS.reg [] ?_ ?_
          · apply prop_of ?_ hq
            kernel_rfl
          refine XS.then ?_
          refine TS.seq ?_
          obtain ⟨t18, h⟩ := test_some h
          obtain ⟨y_10, hx19, h⟩ := bind_some' h
          obtain ⟨y_11, hx20, h⟩ := bind_some' h
          obtain ⟨t21, h⟩ := test_some h
          have hq : ((True) ∧ ((cells = cells ∧ (0 ≤ cells ∧ cells ≤ 17179869184)) ∧ ((True) ∧ ((True) ∧ ((True) ∧ ((((True) ∧ ((True) ∧ (True))) ∧ PureC Try.prog 81 [(.int .i64 ((m2.length : Nat) : Int)), (.pv (.int .i64 (IntKind.wrap .i64 (cells - (1 : Int)))))] (.st (.cons (.int .i64 y_10.1) (.int .i64 y_10.2))) []) ∧ ((True) ∧ ((True) ∧ ((((True) ∧ ((True) ∧ (True))) ∧ PureC Try.prog 81 [(.int .i64 got), (.pv (.int .i64 (IntKind.wrap .i64 (cells - (1 : Int)))))] (.st (.cons (.int .i64 y_11.1) (.int .i64 y_11.2))) []) ∧ ((True) ∧ ((True) ∧ (((IntKind.wrap .i64 (cells - (1 : Int))) ≠ 0) ∧ (((True) ∧ ((True) ∧ ((True) ∧ ((True) ∧ (True))))) ∧ ((True) ∧ (True))))))))))))))) ∧ ((True) ∧ (True)) := ⟨⟨trivial, ⟨⟨rfl, of_decide_eq_true t18⟩, ⟨trivial, ⟨trivial, ⟨trivial, ⟨⟨⟨trivial, ⟨trivial, trivial⟩⟩, F81_ok n ((m2.length : Nat) : Int) (IntKind.wrap .i64 (cells - (1 : Int))) y_10 hx19⟩, ⟨trivial, ⟨trivial, ⟨⟨⟨trivial, ⟨trivial, trivial⟩⟩, F81_ok n got (IntKind.wrap .i64 (cells - (1 : Int))) y_11 hx20⟩, ⟨trivial, ⟨trivial, ⟨bne_ok t21, ⟨⟨trivial, ⟨trivial, ⟨trivial, ⟨trivial, trivial⟩⟩⟩⟩, ⟨trivial, trivial⟩⟩⟩⟩⟩⟩⟩⟩⟩⟩⟩⟩⟩⟩, ⟨trivial, trivial⟩⟩
          refine TS.draw 14 [] [.none, .none, .none, .none, .none, (.call (.st (.cons (.int .i64 y_10.1) (.int .i64 y_10.2))) []), .none, .none, (.call (.st (.cons (.int .i64 y_11.1) (.int .i64 y_11.2))) [])] (by kernel_rfl) ?_ ?_
          · apply prop_of ?_ hq
            kernel_rfl
          refine XS.then ?_
          refine TS.seq ?_
          refine TS.seq ?_
          have hq : (True) ∧ ((True) ∧ ((True) ∧ (True))) := ⟨trivial, ⟨trivial, ⟨trivial, trivial⟩⟩⟩
          refine TS.reg [] ?_ ?_
          · apply prop_of ?_ hq
            kernel_rfl
          refine XS.then ?_
          refine TS.block ?_
          refine TS.reLoop [0, 1, 2, 4, 3] (mkMask 110 [4, 7, 8, 9, 13, 14, 75, 76, 77]) (D := Int × (List (Int × Int × Bool))) (fun d => match d with | (x_2, m4) => (mkTs 110 [(4, (.ptr 0 [])), (7, (.ptr 1 [])), (8, (.row 2)), (9, (.int .i64 got)), (13, (.fn 81 (.cons (.ptr 1 []) .nil))), (14, (.ptr 3 [])), (75, (.row 2)), (76, (.int .i64 ((m2.length : Nat) : Int))), (77, (.int .i64 x_2))], [(.box 65 (.st (.cons .nilS (.cons (.st (.cons (.int .i64 (0 : Int)) (.int .i64 (0 : Int)))) (.cons (.st (.cons (.int .i64 (0 : Int)) (.int .i64 (0 : Int)))) (.int .i64 (0 : Int))))))), (.box 3 (.int .i64 (IntKind.wrap .i64 (cells - (1 : Int))))), (.row 24 (.int .u64) m2), (.box 65 (.st (.cons (.row 4) (.cons (.st (.cons (.int .i64 y_10.1) (.int .i64 y_10.2))) (.cons (.st (.cons (.int .i64 y_11.1) (.int .i64 y_11.2))) (.int .i64 (seen.tmod (IntKind.wrap .i64 (cells - (1 : Int)))))))))), (.row 75 (.st (.pair (.int .u64) (.pair (.int .i64) .bool))) m4)])) (fun n' d => loopF (F43_l10 n cells got seen m2 y_10 y_11) n' d = some r) n ((0 : Int), (List.replicate cells.toNat ((0 : Int), ((0 : Int), false)))) h ?_ (fun d => loopF_zero _ d r) ?_
          · kernel_rfl
          · rintro n10 ⟨x_2, m4⟩ h
            replace h : (bif (decide (x_2 < ((m2.length : Nat) : Int))) then (bif inb x_2 m2.length then ((F81 n x_2 (IntKind.wrap .i64 (cells - (1 : Int)))).bind fun y_12 => (bif inb (x_2.tmod (IntKind.wrap .i64 (cells - (1 : Int)))) m4.length then ((loopF (F43_l10 n cells got seen m2 y_10 y_11) n10) ((IntKind.wrap .i64 (x_2 + (1 : Int))), (m4.set ((x_2.tmod (IntKind.wrap .i64 (cells - (1 : Int)))).toNat) ((m2.getD x_2.toNat (0 : Int)), (y_12.2, false))))) else none)) else none) else (bif inb (IntKind.wrap .i64 (cells - (1 : Int))) m4.length then (bif subB m2.length none (some got) then ((F82 n (m2.take got.toNat)).bind fun y_13 => (some (y_10.1, y_10.2, y_11.1, y_11.2, (seen.tmod (IntKind.wrap .i64 (cells - (1 : Int)))), (0 : Int), (m4.set ((IntKind.wrap .i64 (cells - (1 : Int))).toNat) ((0 : Int), (((IntKind.wrap .i64 (((m2.length : Nat) : Int).tdiv (IntKind.wrap .i64 (cells - (1 : Int))))).tmod (2 : Int)), true))), y_13))) else none) else none)) = some r := h
            refine TS.seq ?_
            have hq : (True) ∧ (True) := ⟨trivial, trivial⟩
            refine TS.reg [] ?_ ?_
            · apply prop_of ?_ hq
              kernel_rfl
            refine XS.then ?_
            refine TS.seq ?_
            rcases bif_some h with ⟨c22, h⟩ | ⟨c23, h⟩
            · refine TS.cond (decide (x_2 < ((m2.length : Nat) : Int))) ?_ (fun e => ?_) (fun e => by rw [c22] at e; cases e)
              · kernel_rfl
              refine TS.skip ?_
              refine XS.then ?_
              refine TS.seq ?_
              refine TS.block ?_
              refine TS.seq ?_
              obtain ⟨t24, h⟩ := test_some h
              have hq : (True) ∧ ((inR x_2 m2.length) ∧ ((x_2.toNat < m2.length ∧ (True)) ∧ ((True) ∧ ((True) ∧ (True))))) := ⟨trivial, ⟨inb_ok t24, ⟨⟨inR_lt (inb_ok t24), trivial⟩, ⟨trivial, ⟨trivial, trivial⟩⟩⟩⟩⟩
              refine TS.reg [] ?_ ?_
              · apply prop_of ?_ hq
                kernel_rfl
              refine XS.then ?_
              obtain ⟨y_12, hx25, h⟩ := bind_some' h
              obtain ⟨t26, h⟩ := test_some h
              have hq : ((True) ∧ ((True) ∧ ((True) ∧ ((True) ∧ (((IntKind.wrap .i64 (cells - (1 : Int))) ≠ 0) ∧ ((True) ∧ ((True) ∧ ((True) ∧ ((((True) ∧ ((True) ∧ (True))) ∧ PureC Try.prog 81 [(.int .i64 x_2), (.pv (.int .i64 (IntKind.wrap .i64 (cells - (1 : Int)))))] (.st (.cons (.int .i64 y_12.1) (.int .i64 y_12.2))) []) ∧ ((True) ∧ (((True) ∧ ((True) ∧ (True))) ∧ ((inR (x_2.tmod (IntKind.wrap .i64 (cells - (1 : Int)))) m4.length) ∧ (True))))))))))))) ∧ (((((x_2.tmod (IntKind.wrap .i64 (cells - (1 : Int)))).toNat) < m4.length ∧ (True)) ∧ m4.length = m4.length) ∧ (True)) := ⟨⟨trivial, ⟨trivial, ⟨trivial, ⟨trivial, ⟨bne_ok t21, ⟨trivial, ⟨trivial, ⟨trivial, ⟨⟨⟨trivial, ⟨trivial, trivial⟩⟩, F81_ok n x_2 (IntKind.wrap .i64 (cells - (1 : Int))) y_12 hx25⟩, ⟨trivial, ⟨⟨trivial, ⟨trivial, trivial⟩⟩, ⟨inb_ok t26, trivial⟩⟩⟩⟩⟩⟩⟩⟩⟩⟩⟩⟩, ⟨⟨⟨inR_lt (inb_ok t26), trivial⟩, rfl⟩, trivial⟩⟩
              refine TS.draw 12 [] [.none, .none, .none, .none, .none, .none, .none, .none, (.call (.st (.cons (.int .i64 y_12.1) (.int .i64 y_12.2))) [])] (by kernel_rfl) ?_ ?_
              · apply prop_of ?_ hq
                kernel_rfl
              refine XS.blockEnd ?_
              refine XS.then ?_
              have hq : (True) ∧ ((True) ∧ (True)) := ⟨trivial, ⟨trivial, trivial⟩⟩
              refine TS.reg [] ?_ ?_
              · apply prop_of ?_ hq
                kernel_rfl
              refine XS.reAny [0, 1, 2, 3, 4] (mkMask 110 [4, 7, 8, 9, 13, 14, 75, 76, 77]) ((IntKind.wrap .i64 (x_2 + (1 : Int))), (m4.set ((x_2.tmod (IntKind.wrap .i64 (cells - (1 : Int)))).toNat) ((m2.getD x_2.toNat (0 : Int)), (y_12.2, false)))) h ?_
              kernel_rfl
            · refine TS.cond (decide (x_2 < ((m2.length : Nat) : Int))) ?_ (fun e => by rw [c23] at e; cases e) (fun e => ?_)
              · kernel_rfl
              refine TS.exit ?_
              refine XS.passE ?_
              refine XS.passE ?_
              refine XS.out ?_
              refine XS.then ?_
              refine TS.seq ?_
              obtain ⟨t27, h⟩ := test_some h
              have hq : ((True) ∧ ((True) ∧ ((True) ∧ ((True) ∧ ((True) ∧ ((True) ∧ (((IntKind.wrap .i64 (cells - (1 : Int))) ≠ 0) ∧ (((2 : Int) ≠ 0) ∧ (((True) ∧ ((True) ∧ (True))) ∧ ((inR (IntKind.wrap .i64 (cells - (1 : Int))) m4.length) ∧ (True))))))))))) ∧ (((((IntKind.wrap .i64 (cells - (1 : Int))).toNat) < m4.length ∧ (True)) ∧ m4.length = m4.length) ∧ (True)) := ⟨⟨trivial, ⟨trivial, ⟨trivial, ⟨trivial, ⟨trivial, ⟨trivial, ⟨bne_ok t21, ⟨by decide, ⟨⟨trivial, ⟨trivial, trivial⟩⟩, ⟨inb_ok t27, trivial⟩⟩⟩⟩⟩⟩⟩⟩⟩⟩, ⟨⟨⟨inR_lt (inb_ok t27), trivial⟩, rfl⟩, trivial⟩⟩
              refine TS.draw 10 [] [] (by kernel_rfl) ?_ ?_
              · apply prop_of ?_ hq
                kernel_rfl
              refine XS.then ?_
              refine TS.seq ?_
              refine TS.wk (.frz 2) ?_
              obtain ⟨t28, h⟩ := test_some h
              obtain ⟨y_13, hx29, h⟩ := bind_some' h
              have hq : ((True) ∧ ((True) ∧ ((True) ∧ ((subC m2.length none (some got)) ∧ ((PureC Try.prog 82 [(.sl (.int .u64) (m2.take got.toNat))] (.row 0) [(.row 24 (.int .u64) y_13)]) ∧ (True)))))) ∧ ((True) ∧ ((True) ∧ ((True) ∧ (True)))) := ⟨⟨trivial, ⟨trivial, ⟨trivial, ⟨subB_ok t28, ⟨F82_ok n (m2.take got.toNat) y_13 hx29, trivial⟩⟩⟩⟩⟩, ⟨trivial, ⟨trivial, ⟨trivial, trivial⟩⟩⟩⟩
              refine TS.draw 5 [] [.none, .none, .none, .none, (.call (.row 0) [(.row 24 (.int .u64) y_13)])] (by kernel_rfl) ?_ ?_
              · apply prop_of ?_ hq
                kernel_rfl
              refine XS.then ?_
              refine TS.ret ?_
              obtain rfl : (y_10.1, y_10.2, y_11.1, y_11.2, (seen.tmod (IntKind.wrap .i64 (cells - (1 : Int)))), (0 : Int), (m4.set ((IntKind.wrap .i64 (cells - (1 : Int))).toNat) ((0 : Int), (((IntKind.wrap .i64 (((m2.length : Nat) : Int).tdiv (IntKind.wrap .i64 (cells - (1 : Int))))).tmod (2 : Int)), true))), y_13) = r := Option.some.inj h
              exact XS.fin [4, 5] ((True) ∧ ((True) ∧ ((True) ∧ (True)))) (by kernel_rfl) ⟨trivial, ⟨trivial, ⟨trivial, trivial⟩⟩⟩

/-! slices.Equal[[]plugtree/api.Cell,plugtree/api.Cell] -/
def F80_l2 (n : Nat) (s1 : List (Int × Int × Bool)) (s2 : List (Int × Int × Bool)) (k80_2 : Int → Option Bool) : Int → Option Bool
  | x => (bif (decide (x < ((s1.length : Nat) : Int))) then (bif inb x s1.length then (bif inb x s2.length then (bif (!(Sh.beq (.st (.pair (.int .u64) (.pair (.int .i64) .bool))) ((s1.getD x.toNat ((0 : Int), ((0 : Int), false))).1, ((s1.getD x.toNat ((0 : Int), ((0 : Int), false))).2.1, (s1.getD x.toNat ((0 : Int), ((0 : Int), false))).2.2)) ((s2.getD x.toNat ((0 : Int), ((0 : Int), false))).1, ((s2.getD x.toNat ((0 : Int), ((0 : Int), false))).2.1, (s2.getD x.toNat ((0 : Int), ((0 : Int), false))).2.2)))) then (some false) else (k80_2 (IntKind.wrap .i64 (x + (1 : Int))))) else none) else none) else (some true))
def F80 (n : Nat) (s1 : List (Int × Int × Bool)) (s2 : List (Int × Int × Bool)) : Option Bool := (bif (((s1.length : Nat) : Int) != ((s2.length : Nat) : Int)) then (some false) else (loopF (F80_l2 n s1 s2) n (0 : Int)))
theorem F80_ok (n : Nat) (s1 : List (Int × Int × Bool)) (s2 : List (Int × Int × Bool)) (r : Bool) (h : F80 n s1 s2 = some r) : PureC Try.prog 80 [(.sl (.st (.pair (.int .u64) (.pair (.int .i64) .bool))) s1), (.sl (.st (.pair (.int .u64) (.pair (.int .i64) .bool))) s2)] (.bool r) [] := by
  refine PureC.mkS Try.func80 rfl rfl ?_
  intro w0 fz0 hfz
  replace h : (bif (((s1.length : Nat) : Int) != ((s2.length : Nat) : Int)) then (some false) else (loopF (F80_l2 n s1 s2) n (0 : Int))) = some r := h
  refine TS.seq ?_
  have hq : (True) ∧ (True) := ⟨trivial, trivial⟩
  refine TS.reg [] ?_ ?_
  · apply prop_of ?_ hq
    kernel_rfl
  refine XS.then ?_
  refine TS.seq ?_
  refine TS.seq ?_
  have hq : (True) ∧ ((True) ∧ ((True) ∧ ((True) ∧ ((True) ∧ (True))))) := ⟨trivial, ⟨trivial, ⟨trivial, ⟨trivial, ⟨trivial, trivial⟩⟩⟩⟩⟩
  refine TS.reg [] ?_ ?_
  · apply prop_of ?_ hq
    kernel_rfl
  refine XS.then ?_
  rcases bif_some h with ⟨c1, h⟩ | ⟨c2, h⟩
  · refine TS.cond (((s1.length : Nat) : Int) != ((s2.length : Nat) : Int)) ?_ (fun e => ?_) (fun e => by rw [c1] at e; cases e)
    · kernel_rfl
    refine TS.seq ?_
    have hq : (True) ∧ (True) := ⟨trivial, trivial⟩
    refine TS.reg [] ?_ ?_
    · apply prop_of ?_ hq
      kernel_rfl
    refine XS.then ?_
    refine TS.ret ?_
    refine XS.passR ?_
    obtain rfl : false = r := Option.some.inj h
    exact XS.fin [] ((True) ∧ (True)) (by kernel_rfl) ⟨trivial, trivial⟩
  · refine TS.cond (((s1.length : Nat) : Int) != ((s2.length : Nat) : Int)) ?_ (fun e => by rw [c2] at e; cases e) (fun e => ?_)
    · kernel_rfl
    refine TS.skip ?_
    refine XS.then ?_
    refine TS.seq ?_
    refine TS.seq ?_
    have hq : (True) ∧ ((True) ∧ ((True) ∧ (True))) := ⟨trivial, ⟨trivial, ⟨trivial, trivial⟩⟩⟩
    refine TS.reg [] ?_ ?_
    · apply prop_of ?_ hq
      kernel_rfl
    refine XS.then ?_
    refine TS.block ?_
    refine TS.reLoop [] (mkMask 26 [0, 1, 12, 13]) (D := Int) (fun d => match d with | x => (mkTs 26 [(0, (.sl (.st (.pair (.int .u64) (.pair (.int .i64) .bool))) s1)), (1, (.sl (.st (.pair (.int .u64) (.pair (.int .i64) .bool))) s2)), (12, (.int .i64 ((s1.length : Nat) : Int))), (13, (.int .i64 x))], [])) (fun n' d => loopF (F80_l2 n s1 s2) n' d = some r) n (0 : Int) h ?_ (fun d => loopF_zero _ d r) ?_
    · kernel_rfl
    · rintro n2 x h
      replace h : (bif (decide (x < ((s1.length : Nat) : Int))) then (bif inb x s1.length then (bif inb x s2.length then (bif (!(Sh.beq (.st (.pair (.int .u64) (.pair (.int .i64) .bool))) ((s1.getD x.toNat ((0 : Int), ((0 : Int), false))).1, ((s1.getD x.toNat ((0 : Int), ((0 : Int), false))).2.1, (s1.getD x.toNat ((0 : Int), ((0 : Int), false))).2.2)) ((s2.getD x.toNat ((0 : Int), ((0 : Int), false))).1, ((s2.getD x.toNat ((0 : Int), ((0 : Int), false))).2.1, (s2.getD x.toNat ((0 : Int), ((0 : Int), false))).2.2)))) then (some false) else ((loopF (F80_l2 n s1 s2) n2) (IntKind.wrap .i64 (x + (1 : Int))))) else none) else none) else (some true)) = some r := h
      refine TS.seq ?_
      have hq : (True) ∧ (True) := ⟨trivial, trivial⟩
      refine TS.reg [] ?_ ?_
      · apply prop_of ?_ hq
        kernel_rfl
      refine XS.then ?_
      refine TS.seq ?_
      rcases bif_some h with ⟨c3, h⟩ | ⟨c4, h⟩
      · refine TS.cond (decide (x < ((s1.length : Nat) : Int))) ?_ (fun e => ?_) (fun e => by rw [c3] at e; cases e)
        · kernel_rfl
        refine TS.skip ?_
        refine XS.then ?_
        refine TS.seq ?_
        refine TS.block ?_
        refine TS.seq ?_
        have hq : (True) ∧ ((True) ∧ (True)) := ⟨trivial, ⟨trivial, trivial⟩⟩
        refine TS.reg [] ?_ ?_
        · apply prop_of ?_ hq
          kernel_rfl
        refine XS.then ?_
        refine TS.seq ?_
        obtain ⟨t5, h⟩ := test_some h
        obtain ⟨t6, h⟩ := test_some h
        have hq : ((True) ∧ ((True) ∧ ((inR x s1.length) ∧ ((True) ∧ ((True) ∧ ((True) ∧ ((inR x s2.length) ∧ ((True) ∧ ((True) ∧ (True)))))))))) ∧ (True) := ⟨⟨trivial, ⟨trivial, ⟨inb_ok t5, ⟨trivial, ⟨trivial, ⟨trivial, ⟨inb_ok t6, ⟨trivial, ⟨trivial, trivial⟩⟩⟩⟩⟩⟩⟩⟩⟩, trivial⟩
        refine TS.draw 9 [] [] (by kernel_rfl) ?_ ?_
        · apply prop_of ?_ hq
          kernel_rfl
        refine XS.then ?_
        rcases bif_some h with ⟨c7, h⟩ | ⟨c8, h⟩
        · refine TS.cond (!(Sh.beq (.st (.pair (.int .u64) (.pair (.int .i64) .bool))) ((s1.getD x.toNat ((0 : Int), ((0 : Int), false))).1, ((s1.getD x.toNat ((0 : Int), ((0 : Int), false))).2.1, (s1.getD x.toNat ((0 : Int), ((0 : Int), false))).2.2)) ((s2.getD x.toNat ((0 : Int), ((0 : Int), false))).1, ((s2.getD x.toNat ((0 : Int), ((0 : Int), false))).2.1, (s2.getD x.toNat ((0 : Int), ((0 : Int), false))).2.2)))) ?_ (fun e => ?_) (fun e => by rw [c7] at e; cases e)
          · kernel_rfl
          refine TS.seq ?_
          have hq : (True) ∧ (True) := ⟨trivial, trivial⟩
          refine TS.reg [] ?_ ?_
          · apply prop_of ?_ hq
            kernel_rfl
          refine XS.then ?_
          refine TS.ret ?_
          refine XS.blockRet ?_
          refine XS.passR ?_
          refine XS.passR ?_
          refine XS.blockRet ?_
          refine XS.passR ?_
          obtain rfl : false = r := Option.some.inj h
          exact XS.fin [] ((True) ∧ (True)) (by kernel_rfl) ⟨trivial, trivial⟩
        · refine TS.cond (!(Sh.beq (.st (.pair (.int .u64) (.pair (.int .i64) .bool))) ((s1.getD x.toNat ((0 : Int), ((0 : Int), false))).1, ((s1.getD x.toNat ((0 : Int), ((0 : Int), false))).2.1, (s1.getD x.toNat ((0 : Int), ((0 : Int), false))).2.2)) ((s2.getD x.toNat ((0 : Int), ((0 : Int), false))).1, ((s2.getD x.toNat ((0 : Int), ((0 : Int), false))).2.1, (s2.getD x.toNat ((0 : Int), ((0 : Int), false))).2.2)))) ?_ (fun e => by rw [c8] at e; cases e) (fun e => ?_)
          · kernel_rfl
          refine TS.skip ?_
          refine XS.blockEnd ?_
          refine XS.then ?_
          have hq : (True) ∧ ((True) ∧ (True)) := ⟨trivial, ⟨trivial, trivial⟩⟩
          refine TS.reg [] ?_ ?_
          · apply prop_of ?_ hq
            kernel_rfl
          refine XS.reAny [] (mkMask 26 [0, 1, 12, 13]) (IntKind.wrap .i64 (x + (1 : Int))) h ?_
          kernel_rfl
      · refine TS.cond (decide (x < ((s1.length : Nat) : Int))) ?_ (fun e => by rw [c4] at e; cases e) (fun e => ?_)
        · kernel_rfl
        refine TS.exit ?_
        refine XS.passE ?_
        refine XS.passE ?_
        refine XS.out ?_
        refine XS.then ?_
        refine TS.seq ?_
        have hq : (True) ∧ (True) := ⟨trivial, trivial⟩
        refine TS.reg [] ?_ ?_
        · apply prop_of ?_ hq
          kernel_rfl
        refine XS.then ?_
        refine TS.ret ?_
        obtain rfl : true = r := Option.some.inj h
        exact XS.fin [] ((True) ∧ (True)) (by kernel_rfl) ⟨trivial, trivial⟩

/-! plugtree/plugref.SameRing -/
def F38 (n : Nat) (a_Cells : List (Int × Int × Bool)) (a_Put_At : Int) (a_Put_Bit : Int) (a_Get_At : Int) (a_Get_Bit : Int) (a_Seen : Int) (b_Cells : List (Int × Int × Bool)) (b_Put_At : Int) (b_Put_Bit : Int) (b_Get_At : Int) (b_Get_Bit : Int) (b_Seen : Int) : Option Bool := (bif (Sh.beq (.st (.pair (.int .i64) (.int .i64))) (a_Put_At, a_Put_Bit) (b_Put_At, b_Put_Bit)) then (bif (Sh.beq (.st (.pair (.int .i64) (.int .i64))) (a_Get_At, a_Get_Bit) (b_Get_At, b_Get_Bit)) then (bif (a_Seen == b_Seen) then ((F80 n a_Cells b_Cells).bind fun y_2 => (some y_2)) else (some false)) else (some false)) else (some false))
theorem F38_ok (n : Nat) (a_Cells : List (Int × Int × Bool)) (a_Put_At : Int) (a_Put_Bit : Int) (a_Get_At : Int) (a_Get_Bit : Int) (a_Seen : Int) (b_Cells : List (Int × Int × Bool)) (b_Put_At : Int) (b_Put_Bit : Int) (b_Get_At : Int) (b_Get_Bit : Int) (b_Seen : Int) (r : Bool) (h : F38 n a_Cells a_Put_At a_Put_Bit a_Get_At a_Get_Bit a_Seen b_Cells b_Put_At b_Put_Bit b_Get_At b_Get_Bit b_Seen = some r) : PureC Try.prog 38 [(.st (.cons (.sl (.st (.pair (.int .u64) (.pair (.int .i64) .bool))) a_Cells) (.cons (.st (.cons (.int .i64 a_Put_At) (.int .i64 a_Put_Bit))) (.cons (.st (.cons (.int .i64 a_Get_At) (.int .i64 a_Get_Bit))) (.int .i64 a_Seen))))), (.st (.cons (.sl (.st (.pair (.int .u64) (.pair (.int .i64) .bool))) b_Cells) (.cons (.st (.cons (.int .i64 b_Put_At) (.int .i64 b_Put_Bit))) (.cons (.st (.cons (.int .i64 b_Get_At) (.int .i64 b_Get_Bit))) (.int .i64 b_Seen)))))] (.bool r) [] := by
  refine PureC.mkS Try.func38 rfl rfl ?_
  intro w0 fz0 hfz
  replace h : (bif (Sh.beq (.st (.pair (.int .i64) (.int .i64))) (a_Put_At, a_Put_Bit) (b_Put_At, b_Put_Bit)) then (bif (Sh.beq (.st (.pair (.int .i64) (.int .i64))) (a_Get_At, a_Get_Bit) (b_Get_At, b_Get_Bit)) then (bif (a_Seen == b_Seen) then ((F80 n a_Cells b_Cells).bind fun y_2 => (some y_2)) else (some false)) else (some false)) else (some false)) = some r := h
  refine TS.seq ?_
  have hq : (True) ∧ ((True) ∧ ((True) ∧ (True))) := ⟨trivial, ⟨trivial, ⟨trivial, trivial⟩⟩⟩
  refine TS.reg [] ?_ ?_
  · apply prop_of ?_ hq
    kernel_rfl
  refine XS.then ?_
  refine TS.seq ?_
  rcases bif_some h with ⟨c1, h⟩ | ⟨c2, h⟩
  · rcases bif_some h with ⟨c3, h⟩ | ⟨c4, h⟩
    · rcases bif_some h with ⟨c5, h⟩ | ⟨c6, h⟩
      · obtain ⟨y_2, hx7, h⟩ := bind_some' h
        have hq : (True) ∧ ((True) ∧ ((True) ∧ ((True) ∧ ((True) ∧ (((True) ∧ (Sh.beq (.st (.pair (.int .i64) (.int .i64))) (a_Put_At, a_Put_Bit) (b_Put_At, b_Put_Bit)) = true) ∧ ((True) ∧ ((True) ∧ ((True) ∧ ((True) ∧ ((True) ∧ ((True) ∧ (((True) ∧ (Sh.beq (.st (.pair (.int .i64) (.int .i64))) (a_Get_At, a_Get_Bit) (b_Get_At, b_Get_Bit)) = true) ∧ ((True) ∧ ((True) ∧ ((True) ∧ ((True) ∧ ((True) ∧ ((True) ∧ (((True) ∧ (a_Seen == b_Seen) = true) ∧ ((True) ∧ ((True) ∧ ((True) ∧ ((True) ∧ ((PureC Try.prog 80 [(.sl (.st (.pair (.int .u64) (.pair (.int .i64) .bool))) a_Cells), (.sl (.st (.pair (.int .u64) (.pair (.int .i64) .bool))) b_Cells)] (.bool y_2) []) ∧ ((True) ∧ ((True) ∧ (True))))))))))))))))))))))))))) := ⟨trivial, ⟨trivial, ⟨trivial, ⟨trivial, ⟨trivial, ⟨⟨trivial, c1⟩, ⟨trivial, ⟨trivial, ⟨trivial, ⟨trivial, ⟨trivial, ⟨trivial, ⟨⟨trivial, c3⟩, ⟨trivial, ⟨trivial, ⟨trivial, ⟨trivial, ⟨trivial, ⟨trivial, ⟨⟨trivial, c5⟩, ⟨trivial, ⟨trivial, ⟨trivial, ⟨trivial, ⟨F80_ok n a_Cells b_Cells y_2 hx7, ⟨trivial, ⟨trivial, trivial⟩⟩⟩⟩⟩⟩⟩⟩⟩⟩⟩⟩⟩⟩⟩⟩⟩⟩⟩⟩⟩⟩⟩⟩⟩⟩⟩
        refine TS.reg [.none, .none, .none, .none, .none, .dec true, .none, .none, .none, .none, .none, .none, .dec true, .none, .none, .none, .none, .none, .none, .dec true, .none, .none, .none, .none, (.call (.bool y_2) [])] ?_ ?_
        · apply prop_of ?_ hq
          kernel_rfl
        refine XS.then ?_
        refine TS.ret ?_
        obtain rfl : y_2 = r := Option.some.inj h
        exact XS.fin [] ((True) ∧ (True)) (by kernel_rfl) ⟨trivial, trivial⟩
      · have hq : (True) ∧ ((True) ∧ ((True) ∧ ((True) ∧ ((True) ∧ (((True) ∧ (Sh.beq (.st (.pair (.int .i64) (.int .i64))) (a_Put_At, a_Put_Bit) (b_Put_At, b_Put_Bit)) = true) ∧ ((True) ∧ ((True) ∧ ((True) ∧ ((True) ∧ ((True) ∧ ((True) ∧ (((True) ∧ (Sh.beq (.st (.pair (.int .i64) (.int .i64))) (a_Get_At, a_Get_Bit) (b_Get_At, b_Get_Bit)) = true) ∧ ((True) ∧ ((True) ∧ ((True) ∧ ((True) ∧ ((True) ∧ ((True) ∧ (((True) ∧ (a_Seen == b_Seen) = false) ∧ ((True) ∧ ((True) ∧ (True)))))))))))))))))))))) := ⟨trivial, ⟨trivial, ⟨trivial, ⟨trivial, ⟨trivial, ⟨⟨trivial, c1⟩, ⟨trivial, ⟨trivial, ⟨trivial, ⟨trivial, ⟨trivial, ⟨trivial, ⟨⟨trivial, c3⟩, ⟨trivial, ⟨trivial, ⟨trivial, ⟨trivial, ⟨trivial, ⟨trivial, ⟨⟨trivial, c6⟩, ⟨trivial, ⟨trivial, trivial⟩⟩⟩⟩⟩⟩⟩⟩⟩⟩⟩⟩⟩⟩⟩⟩⟩⟩⟩⟩⟩⟩
        refine TS.reg [.none, .none, .none, .none, .none, .dec true, .none, .none, .none, .none, .none, .none, .dec true, .none, .none, .none, .none, .none, .none, .dec false] ?_ ?_
        · apply prop_of ?_ hq
          kernel_rfl
        refine XS.then ?_
        refine TS.ret ?_
        obtain rfl : false = r := Option.some.inj h
        exact XS.fin [] ((True) ∧ (True)) (by kernel_rfl) ⟨trivial, trivial⟩
    · have hq : (True) ∧ ((True) ∧ ((True) ∧ ((True) ∧ ((True) ∧ (((True) ∧ (Sh.beq (.st (.pair (.int .i64) (.int .i64))) (a_Put_At, a_Put_Bit) (b_Put_At, b_Put_Bit)) = true) ∧ ((True) ∧ ((True) ∧ ((True) ∧ ((True) ∧ ((True) ∧ ((True) ∧ (((True) ∧ (Sh.beq (.st (.pair (.int .i64) (.int .i64))) (a_Get_At, a_Get_Bit) (b_Get_At, b_Get_Bit)) = false) ∧ ((True) ∧ ((True) ∧ ((True) ∧ ((True) ∧ (True))))))))))))))))) := ⟨trivial, ⟨trivial, ⟨trivial, ⟨trivial, ⟨trivial, ⟨⟨trivial, c1⟩, ⟨trivial, ⟨trivial, ⟨trivial, ⟨trivial, ⟨trivial, ⟨trivial, ⟨⟨trivial, c4⟩, ⟨trivial, ⟨trivial, ⟨trivial, ⟨trivial, trivial⟩⟩⟩⟩⟩⟩⟩⟩⟩⟩⟩⟩⟩⟩⟩⟩⟩
      refine TS.reg [.none, .none, .none, .none, .none, .dec true, .none, .none, .none, .none, .none, .none, .dec false] ?_ ?_
      · apply prop_of ?_ hq
        kernel_rfl
      refine XS.then ?_
      refine TS.ret ?_
      obtain rfl : false = r := Option.some.inj h
      exact XS.fin [] ((True) ∧ (True)) (by kernel_rfl) ⟨trivial, trivial⟩
  · have hq : (True) ∧ ((True) ∧ ((True) ∧ ((True) ∧ ((True) ∧ (((True) ∧ (Sh.beq (.st (.pair (.int .i64) (.int .i64))) (a_Put_At, a_Put_Bit) (b_Put_At, b_Put_Bit)) = false) ∧ ((True) ∧ ((True) ∧ ((True) ∧ ((True) ∧ ((True) ∧ ((True) ∧ (True)))))))))))) := ⟨trivial, ⟨trivial, ⟨trivial, ⟨trivial, ⟨trivial, ⟨⟨trivial, c2⟩, ⟨trivial, ⟨trivial, ⟨trivial, ⟨trivial, ⟨trivial, ⟨trivial, trivial⟩⟩⟩⟩⟩⟩⟩⟩⟩⟩⟩⟩
    refine TS.reg [.none, .none, .none, .none, .none, .dec false] ?_ ?_
    · apply prop_of ?_ hq
      kernel_rfl
    refine XS.then ?_
    refine TS.ret ?_
    obtain rfl : false = r := Option.some.inj h
    exact XS.fin [] ((True) ∧ (True)) (by kernel_rfl) ⟨trivial, trivial⟩

/-! slices.Equal[[]uint64,uint64] -/
def F45_l2 (n : Nat) (s1 : List Int) (s2 : List Int) (k45_2 : Int → Option Bool) : Int → Option Bool
  | x => (bif (decide (x < ((s1.length : Nat) : Int))) then (bif inb x s1.length then (bif inb x s2.length then (bif ((s1.getD x.toNat (0 : Int)) != (s2.getD x.toNat (0 : Int))) then (some false) else (k45_2 (IntKind.wrap .i64 (x + (1 : Int))))) else none) else none) else (some true))
def F45 (n : Nat) (s1 : List Int) (s2 : List Int) : Option Bool := (bif (((s1.length : Nat) : Int) != ((s2.length : Nat) : Int)) then (some false) else (loopF (F45_l2 n s1 s2) n (0 : Int)))
theorem F45_ok (n : Nat) (s1 : List Int) (s2 : List Int) (r : Bool) (h : F45 n s1 s2 = some r) : PureC Try.prog 45 [(.sl (.int .u64) s1), (.sl (.int .u64) s2)] (.bool r) [] := by
  refine PureC.mkS Try.func45 rfl rfl ?_
  intro w0 fz0 hfz
  replace h : (bif (((s1.length : Nat) : Int) != ((s2.length : Nat) : Int)) then (some false) else (loopF (F45_l2 n s1 s2) n (0 : Int))) = some r := h
  refine TS.seq ?_
  have hq : (True) ∧ (True) := ⟨trivial, trivial⟩
  refine TS.reg [] ?_ ?_
  · apply prop_of ?_ hq
    kernel_rfl
  refine XS.then ?_
  refine TS.seq ?_
  refine TS.seq ?_
  have hq : (True) ∧ ((True) ∧ ((True) ∧ ((True) ∧ ((True) ∧ (True))))) := ⟨trivial, ⟨trivial, ⟨trivial, ⟨trivial, ⟨trivial, trivial⟩⟩⟩⟩⟩
  refine TS.reg [] ?_ ?_
  · apply prop_of ?_ hq
    kernel_rfl
  refine XS.then ?_
  rcases bif_some h with ⟨c1, h⟩ | ⟨c2, h⟩
  · refine TS.cond (((s1.length : Nat) : Int) != ((s2.length : Nat) : Int)) ?_ (fun e => ?_) (fun e => by rw [c1] at e; cases e)
    · kernel_rfl
    refine TS.seq ?_
    have hq : (True) ∧ (True) := ⟨trivial, trivial⟩
    refine TS.reg [] ?_ ?_
    · apply prop_of ?_ hq
      kernel_rfl
    refine XS.then ?_
    refine TS.ret ?_
    refine XS.passR ?_
    obtain rfl : false = r := Option.some.inj h
    exact XS.fin [] ((True) ∧ (True)) (by kernel_rfl) ⟨trivial, trivial⟩
  · refine TS.cond (((s1.length : Nat) : Int) != ((s2.length : Nat) : Int)) ?_ (fun e => by rw [c2] at e; cases e) (fun e => ?_)
    · kernel_rfl
    refine TS.skip ?_
    refine XS.then ?_
    refine TS.seq ?_
    refine TS.seq ?_
    have hq : (True) ∧ ((True) ∧ ((True) ∧ (True))) := ⟨trivial, ⟨trivial, ⟨trivial, trivial⟩⟩⟩
    refine TS.reg [] ?_ ?_
    · apply prop_of ?_ hq
      kernel_rfl
    refine XS.then ?_
    refine TS.block ?_
    refine TS.reLoop [] (mkMask 26 [0, 1, 12, 13]) (D := Int) (fun d => match d with | x => (mkTs 26 [(0, (.sl (.int .u64) s1)), (1, (.sl (.int .u64) s2)), (12, (.int .i64 ((s1.length : Nat) : Int))), (13, (.int .i64 x))], [])) (fun n' d => loopF (F45_l2 n s1 s2) n' d = some r) n (0 : Int) h ?_ (fun d => loopF_zero _ d r) ?_
    · kernel_rfl
    · rintro n2 x h
      replace h : (bif (decide (x < ((s1.length : Nat) : Int))) then (bif inb x s1.length then (bif inb x s2.length then (bif ((s1.getD x.toNat (0 : Int)) != (s2.getD x.toNat (0 : Int))) then (some false) else ((loopF (F45_l2 n s1 s2) n2) (IntKind.wrap .i64 (x + (1 : Int))))) else none) else none) else (some true)) = some r := h
      refine TS.seq ?_
      have hq : (True) ∧ (True) := ⟨trivial, trivial⟩
      refine TS.reg [] ?_ ?_
      · apply prop_of ?_ hq
        kernel_rfl
      refine XS.then ?_
      refine TS.seq ?_
      rcases bif_some h with ⟨c3, h⟩ | ⟨c4, h⟩
      · refine TS.cond (decide (x < ((s1.length : Nat) : Int))) ?_ (fun e => ?_) (fun e => by rw [c3] at e; cases e)
        · kernel_rfl
        refine TS.skip ?_
        refine XS.then ?_
        refine TS.seq ?_
        refine TS.block ?_
        refine TS.seq ?_
        have hq : (True) ∧ ((True) ∧ (True)) := ⟨trivial, ⟨trivial, trivial⟩⟩
        refine TS.reg [] ?_ ?_
        · apply prop_of ?_ hq
          kernel_rfl
        refine XS.then ?_
        refine TS.seq ?_
        obtain ⟨t5, h⟩ := test_some h
        obtain ⟨t6, h⟩ := test_some h
        have hq : ((True) ∧ ((True) ∧ ((inR x s1.length) ∧ ((True) ∧ ((True) ∧ ((True) ∧ ((inR x s2.length) ∧ ((True) ∧ ((True) ∧ (True)))))))))) ∧ (True) := ⟨⟨trivial, ⟨trivial, ⟨inb_ok t5, ⟨trivial, ⟨trivial, ⟨trivial, ⟨inb_ok t6, ⟨trivial, ⟨trivial, trivial⟩⟩⟩⟩⟩⟩⟩⟩⟩, trivial⟩
        refine TS.draw 9 [] [] (by kernel_rfl) ?_ ?_
        · apply prop_of ?_ hq
          kernel_rfl
        refine XS.then ?_
        rcases bif_some h with ⟨c7, h⟩ | ⟨c8, h⟩
        · refine TS.cond ((s1.getD x.toNat (0 : Int)) != (s2.getD x.toNat (0 : Int))) ?_ (fun e => ?_) (fun e => by rw [c7] at e; cases e)
          · kernel_rfl
          refine TS.seq ?_
          have hq : (True) ∧ (True) := ⟨trivial, trivial⟩
          refine TS.reg [] ?_ ?_
          · apply prop_of ?_ hq
            kernel_rfl
          refine XS.then ?_
          refine TS.ret ?_
          refine XS.blockRet ?_
          refine XS.passR ?_
          refine XS.passR ?_
          refine XS.blockRet ?_
          refine XS.passR ?_
          obtain rfl : false = r := Option.some.inj h
          exact XS.fin [] ((True) ∧ (True)) (by kernel_rfl) ⟨trivial, trivial⟩
        · refine TS.cond ((s1.getD x.toNat (0 : Int)) != (s2.getD x.toNat (0 : Int))) ?_ (fun e => by rw [c8] at e; cases e) (fun e => ?_)
          · kernel_rfl
          refine TS.skip ?_
          refine XS.blockEnd ?_
          refine XS.then ?_
          have hq : (True) ∧ ((True) ∧ (True)) := ⟨trivial, ⟨trivial, trivial⟩⟩
          refine TS.reg [] ?_ ?_
          · apply prop_of ?_ hq
            kernel_rfl
          refine XS.reAny [] (mkMask 26 [0, 1, 12, 13]) (IntKind.wrap .i64 (x + (1 : Int))) h ?_
          kernel_rfl
      · refine TS.cond (decide (x < ((s1.length : Nat) : Int))) ?_ (fun e => by rw [c4] at e; cases e) (fun e => ?_)
        · kernel_rfl
        refine TS.exit ?_
        refine XS.passE ?_
        refine XS.passE ?_
        refine XS.out ?_
        refine XS.then ?_
        refine TS.seq ?_
        have hq : (True) ∧ (True) := ⟨trivial, trivial⟩
        refine TS.reg [] ?_ ?_
        · apply prop_of ?_ hq
          kernel_rfl
        refine XS.then ?_
        refine TS.ret ?_
        obtain rfl : true = r := Option.some.inj h
        exact XS.fin [] ((True) ∧ (True)) (by kernel_rfl) ⟨trivial, trivial⟩

/-! plugtree/pluglaw.RingPlays -/
def F11 (n : Nat) (cells : Int) (turns : List (Int × Int)) : Option Bool := ((F42 n cells turns).bind fun y_2 => ((F43 n cells turns).bind fun y_3 => ((F44 n cells).bind fun y_4 => ((F43 n cells ([] : List (Int × Int))).bind fun y_5 => ((F38 n y_2.2.2.2.2.2.2.1 y_2.1 y_2.2.1 y_2.2.2.1 y_2.2.2.2.1 y_2.2.2.2.2.1 y_3.2.2.2.2.2.2.1 y_3.1 y_3.2.1 y_3.2.2.1 y_3.2.2.2.1 y_3.2.2.2.2.1).bind fun y_6 => (bif y_6 then ((F45 n y_2.2.2.2.2.2.2.2 y_3.2.2.2.2.2.2.2).bind fun y_7 => (bif y_7 then (bif (y_2.2.2.2.2.2.1 == y_3.2.2.2.2.2.1) then ((F38 n y_4.2.2.2.2.2.2 y_4.1 y_4.2.1 y_4.2.2.1 y_4.2.2.2.1 y_4.2.2.2.2.1 y_5.2.2.2.2.2.2.1 y_5.1 y_5.2.1 y_5.2.2.1 y_5.2.2.2.1 y_5.2.2.2.2.1).bind fun y_8 => (bif y_8 then (some (y_4.2.2.2.2.2.1 == y_5.2.2.2.2.2.1)) else (some false))) else (some false)) else (some false))) else (some false)))))))
theorem F11_ok (n : Nat) (cells : Int) (turns : List (Int × Int)) (r : Bool) (h : F11 n cells turns = some r) : PureC Try.prog 11 [(.int .i64 cells), (.sl (.st (.pair (.int .i64) (.int .u64))) turns)] (.bool r) [] := by
  refine PureC.mkS Try.func11 rfl rfl ?_
  intro w0 fz0 hfz
  replace h : ((F42 n cells turns).bind fun y_2 => ((F43 n cells turns).bind fun y_3 => ((F44 n cells).bind fun y_4 => ((F43 n cells ([] : List (Int × Int))).bind fun y_5 => ((F38 n y_2.2.2.2.2.2.2.1 y_2.1 y_2.2.1 y_2.2.2.1 y_2.2.2.2.1 y_2.2.2.2.2.1 y_3.2.2.2.2.2.2.1 y_3.1 y_3.2.1 y_3.2.2.1 y_3.2.2.2.1 y_3.2.2.2.2.1).bind fun y_6 => (bif y_6 then ((F45 n y_2.2.2.2.2.2.2.2 y_3.2.2.2.2.2.2.2).bind fun y_7 => (bif y_7 then (bif (y_2.2.2.2.2.2.1 == y_3.2.2.2.2.2.1) then ((F38 n y_4.2.2.2.2.2.2 y_4.1 y_4.2.1 y_4.2.2.1 y_4.2.2.2.1 y_4.2.2.2.2.1 y_5.2.2.2.2.2.2.1 y_5.1 y_5.2.1 y_5.2.2.1 y_5.2.2.2.1 y_5.2.2.2.2.1).bind fun y_8 => (bif y_8 then (some (y_4.2.2.2.2.2.1 == y_5.2.2.2.2.2.1)) else (some false))) else (some false)) else (some false))) else (some false))))))) = some r := h
  refine TS.seq ?_
  have hq : (True) ∧ (True) := ⟨trivial, trivial⟩
  refine TS.reg [] ?_ ?_
  · apply prop_of ?_ hq
    kernel_rfl
  refine XS.then ?_
  refine TS.seq ?_
  obtain ⟨y_2, hx1, h⟩ := bind_some' h
  have hq : (True) ∧ ((True) ∧ ((PureC Try.prog 42 [(.int .i64 cells), (.sl (.st (.pair (.int .i64) (.int .u64))) turns)] (.tup (.cons (.st (.cons (.row 0) (.cons (.st (.cons (.int .i64 y_2.1) (.int .i64 y_2.2.1))) (.cons (.st (.cons (.int .i64 y_2.2.2.1) (.int .i64 y_2.2.2.2.1))) (.int .i64 y_2.2.2.2.2.1))))) (.cons (.row 1) (.cons (.int .i64 y_2.2.2.2.2.2.1) .nil)))) [(.row 75 (.st (.pair (.int .u64) (.pair (.int .i64) .bool))) y_2.2.2.2.2.2.2.1), (.row 24 (.int .u64) y_2.2.2.2.2.2.2.2)]) ∧ ((True) ∧ ((True) ∧ ((True) ∧ ((True) ∧ ((True) ∧ ((True) ∧ ((True) ∧ ((True) ∧ (True))))))))))) := ⟨trivial, ⟨trivial, ⟨F42_ok n cells turns y_2 hx1, ⟨trivial, ⟨trivial, ⟨trivial, ⟨trivial, ⟨trivial, ⟨trivial, ⟨trivial, ⟨trivial, trivial⟩⟩⟩⟩⟩⟩⟩⟩⟩⟩⟩
  refine TS.reg [.none, .none, (.call (.tup (.cons (.st (.cons (.row 0) (.cons (.st (.cons (.int .i64 y_2.1) (.int .i64 y_2.2.1))) (.cons (.st (.cons (.int .i64 y_2.2.2.1) (.int .i64 y_2.2.2.2.1))) (.int .i64 y_2.2.2.2.2.1))))) (.cons (.row 1) (.cons (.int .i64 y_2.2.2.2.2.2.1) .nil)))) [(.row 75 (.st (.pair (.int .u64) (.pair (.int .i64) .bool))) y_2.2.2.2.2.2.2.1), (.row 24 (.int .u64) y_2.2.2.2.2.2.2.2)])] ?_ ?_
  · apply prop_of ?_ hq
    kernel_rfl
  refine XS.then ?_
  refine TS.seq ?_
  obtain ⟨y_3, hx2, h⟩ := bind_some' h
  have hq : (True) ∧ ((True) ∧ ((PureC Try.prog 43 [(.int .i64 cells), (.sl (.st (.pair (.int .i64) (.int .u64))) turns)] (.tup (.cons (.st (.cons (.row 0) (.cons (.st (.cons (.int .i64 y_3.1) (.int .i64 y_3.2.1))) (.cons (.st (.cons (.int .i64 y_3.2.2.1) (.int .i64 y_3.2.2.2.1))) (.int .i64 y_3.2.2.2.2.1))))) (.cons (.row 1) (.cons (.int .i64 y_3.2.2.2.2.2.1) .nil)))) [(.row 75 (.st (.pair (.int .u64) (.pair (.int .i64) .bool))) y_3.2.2.2.2.2.2.1), (.row 24 (.int .u64) y_3.2.2.2.2.2.2.2)]) ∧ ((True) ∧ ((True) ∧ ((True) ∧ ((True) ∧ ((True) ∧ ((True) ∧ ((True) ∧ ((True) ∧ (True))))))))))) := ⟨trivial, ⟨trivial, ⟨F43_ok n cells turns y_3 hx2, ⟨trivial, ⟨trivial, ⟨trivial, ⟨trivial, ⟨trivial, ⟨trivial, ⟨trivial, ⟨trivial, trivial⟩⟩⟩⟩⟩⟩⟩⟩⟩⟩⟩
  refine TS.reg [.none, .none, (.call (.tup (.cons (.st (.cons (.row 0) (.cons (.st (.cons (.int .i64 y_3.1) (.int .i64 y_3.2.1))) (.cons (.st (.cons (.int .i64 y_3.2.2.1) (.int .i64 y_3.2.2.2.1))) (.int .i64 y_3.2.2.2.2.1))))) (.cons (.row 1) (.cons (.int .i64 y_3.2.2.2.2.2.1) .nil)))) [(.row 75 (.st (.pair (.int .u64) (.pair (.int .i64) .bool))) y_3.2.2.2.2.2.2.1), (.row 24 (.int .u64) y_3.2.2.2.2.2.2.2)])] ?_ ?_
  · apply prop_of ?_ hq
    kernel_rfl
  refine XS.then ?_
  refine TS.seq ?_
  obtain ⟨y_4, hx3, h⟩ := bind_some' h
  have hq : (True) ∧ ((PureC Try.prog 44 [(.int .i64 cells)] (.tup (.cons (.st (.cons (.row 0) (.cons (.st (.cons (.int .i64 y_4.1) (.int .i64 y_4.2.1))) (.cons (.st (.cons (.int .i64 y_4.2.2.1) (.int .i64 y_4.2.2.2.1))) (.int .i64 y_4.2.2.2.2.1))))) (.cons (.int .i64 y_4.2.2.2.2.2.1) .nil))) [(.row 75 (.st (.pair (.int .u64) (.pair (.int .i64) .bool))) y_4.2.2.2.2.2.2)]) ∧ ((True) ∧ ((True) ∧ ((True) ∧ ((True) ∧ ((True) ∧ ((True) ∧ (True)))))))) := ⟨trivial, ⟨F44_ok n cells y_4 hx3, ⟨trivial, ⟨trivial, ⟨trivial, ⟨trivial, ⟨trivial, ⟨trivial, trivial⟩⟩⟩⟩⟩⟩⟩⟩
  refine TS.reg [.none, (.call (.tup (.cons (.st (.cons (.row 0) (.cons (.st (.cons (.int .i64 y_4.1) (.int .i64 y_4.2.1))) (.cons (.st (.cons (.int .i64 y_4.2.2.1) (.int .i64 y_4.2.2.2.1))) (.int .i64 y_4.2.2.2.2.1))))) (.cons (.int .i64 y_4.2.2.2.2.2.1) .nil))) [(.row 75 (.st (.pair (.int .u64) (.pair (.int .i64) .bool))) y_4.2.2.2.2.2.2)])] ?_ ?_
  · apply prop_of ?_ hq
    kernel_rfl
  refine XS.then ?_
  refine TS.seq ?_
  obtain ⟨y_5, hx4, h⟩ := bind_some' h
  have hq : (True) ∧ ((PureC Try.prog 43 [(.int .i64 cells), .nilS] (.tup (.cons (.st (.cons (.row 0) (.cons (.st (.cons (.int .i64 y_5.1) (.int .i64 y_5.2.1))) (.cons (.st (.cons (.int .i64 y_5.2.2.1) (.int .i64 y_5.2.2.2.1))) (.int .i64 y_5.2.2.2.2.1))))) (.cons (.row 1) (.cons (.int .i64 y_5.2.2.2.2.2.1) .nil)))) [(.row 75 (.st (.pair (.int .u64) (.pair (.int .i64) .bool))) y_5.2.2.2.2.2.2.1), (.row 24 (.int .u64) y_5.2.2.2.2.2.2.2)]) ∧ ((True) ∧ ((True) ∧ ((True) ∧ ((True) ∧ ((True) ∧ ((True) ∧ ((True) ∧ ((True) ∧ (True)))))))))) := ⟨trivial, ⟨PureC.nilArg 1 [] (.st (.pair (.int .i64) (.int .u64))) (F43_ok n cells ([] : List (Int × Int)) y_5 hx4), ⟨trivial, ⟨trivial, ⟨trivial, ⟨trivial, ⟨trivial, ⟨trivial, ⟨trivial, ⟨trivial, trivial⟩⟩⟩⟩⟩⟩⟩⟩⟩⟩
  refine TS.reg [.none, (.call (.tup (.cons (.st (.cons (.row 0) (.cons (.st (.cons (.int .i64 y_5.1) (.int .i64 y_5.2.1))) (.cons (.st (.cons (.int .i64 y_5.2.2.1) (.int .i64 y_5.2.2.2.1))) (.int .i64 y_5.2.2.2.2.1))))) (.cons (.row 1) (.cons (.int .i64 y_5.2.2.2.2.2.1) .nil)))) [(.row 75 (.st (.pair (.int .u64) (.pair (.int .i64) .bool))) y_5.2.2.2.2.2.2.1), (.row 24 (.int .u64) y_5.2.2.2.2.2.2.2)])] ?_ ?_
  · apply prop_of ?_ hq
    kernel_rfl
  refine XS.then ?_
  refine TS.seq ?_
  obtain ⟨y_6, hx5, h⟩ := bind_some' h
  rcases bif_some h with ⟨c6, h⟩ | ⟨c7, h⟩
  · obtain ⟨y_7, hx8, h⟩ := bind_some' h
    rcases bif_some h with ⟨c9, h⟩ | ⟨c10, h⟩
    · rcases bif_some h with ⟨c11, h⟩ | ⟨c12, h⟩
      · obtain ⟨y_8, hx13, h⟩ := bind_some' h
        rcases bif_some h with ⟨c14, h⟩ | ⟨c15, h⟩
        · have hq : (True) ∧ ((True) ∧ (((((True) ∧ (((True) ∧ (True)) ∧ (((True) ∧ (True)) ∧ (True)))) ∧ (((True) ∧ (((True) ∧ (True)) ∧ (((True) ∧ (True)) ∧ (True)))) ∧ (True))) ∧ PureC Try.prog 38 [(.st (.cons (.sl (.st (.pair (.int .u64) (.pair (.int .i64) .bool))) y_2.2.2.2.2.2.2.1) (.cons (.st (.cons (.int .i64 y_2.1) (.int .i64 y_2.2.1))) (.cons (.st (.cons (.int .i64 y_2.2.2.1) (.int .i64 y_2.2.2.2.1))) (.int .i64 y_2.2.2.2.2.1))))), (.st (.cons (.sl (.st (.pair (.int .u64) (.pair (.int .i64) .bool))) y_3.2.2.2.2.2.2.1) (.cons (.st (.cons (.int .i64 y_3.1) (.int .i64 y_3.2.1))) (.cons (.st (.cons (.int .i64 y_3.2.2.1) (.int .i64 y_3.2.2.2.1))) (.int .i64 y_3.2.2.2.2.1)))))] (.bool y_6) []) ∧ (((True) ∧ y_6 = true) ∧ ((True) ∧ ((True) ∧ ((((True) ∧ ((True) ∧ (True))) ∧ PureC Try.prog 45 [(.sl (.int .u64) y_2.2.2.2.2.2.2.2), (.sl (.int .u64) y_3.2.2.2.2.2.2.2)] (.bool y_7) []) ∧ ((True) ∧ (((True) ∧ y_7 = true) ∧ ((True) ∧ ((True) ∧ ((True) ∧ ((True) ∧ (((True) ∧ (y_2.2.2.2.2.2.1 == y_3.2.2.2.2.2.1) = true) ∧ ((True) ∧ ((True) ∧ (((((True) ∧ (((True) ∧ (True)) ∧ (((True) ∧ (True)) ∧ (True)))) ∧ (((True) ∧ (((True) ∧ (True)) ∧ (((True) ∧ (True)) ∧ (True)))) ∧ (True))) ∧ PureC Try.prog 38 [(.st (.cons (.sl (.st (.pair (.int .u64) (.pair (.int .i64) .bool))) y_4.2.2.2.2.2.2) (.cons (.st (.cons (.int .i64 y_4.1) (.int .i64 y_4.2.1))) (.cons (.st (.cons (.int .i64 y_4.2.2.1) (.int .i64 y_4.2.2.2.1))) (.int .i64 y_4.2.2.2.2.1))))), (.st (.cons (.sl (.st (.pair (.int .u64) (.pair (.int .i64) .bool))) y_5.2.2.2.2.2.2.1) (.cons (.st (.cons (.int .i64 y_5.1) (.int .i64 y_5.2.1))) (.cons (.st (.cons (.int .i64 y_5.2.2.1) (.int .i64 y_5.2.2.2.1))) (.int .i64 y_5.2.2.2.2.1)))))] (.bool y_8) []) ∧ ((True) ∧ (((True) ∧ y_8 = true) ∧ ((True) ∧ ((True) ∧ ((True) ∧ ((True) ∧ ((True) ∧ (True)))))))))))))))))))))))) := ⟨trivial, ⟨trivial, ⟨⟨⟨⟨trivial, ⟨⟨trivial, trivial⟩, ⟨⟨trivial, trivial⟩, trivial⟩⟩⟩, ⟨⟨trivial, ⟨⟨trivial, trivial⟩, ⟨⟨trivial, trivial⟩, trivial⟩⟩⟩, trivial⟩⟩, F38_ok n y_2.2.2.2.2.2.2.1 y_2.1 y_2.2.1 y_2.2.2.1 y_2.2.2.2.1 y_2.2.2.2.2.1 y_3.2.2.2.2.2.2.1 y_3.1 y_3.2.1 y_3.2.2.1 y_3.2.2.2.1 y_3.2.2.2.2.1 y_6 hx5⟩, ⟨⟨trivial, c6⟩, ⟨trivial, ⟨trivial, ⟨⟨⟨trivial, ⟨trivial, trivial⟩⟩, F45_ok n y_2.2.2.2.2.2.2.2 y_3.2.2.2.2.2.2.2 y_7 hx8⟩, ⟨trivial, ⟨⟨trivial, c9⟩, ⟨trivial, ⟨trivial, ⟨trivial, ⟨trivial, ⟨⟨trivial, c11⟩, ⟨trivial, ⟨trivial, ⟨⟨⟨⟨trivial, ⟨⟨trivial, trivial⟩, ⟨⟨trivial, trivial⟩, trivial⟩⟩⟩, ⟨⟨trivial, ⟨⟨trivial, trivial⟩, ⟨⟨trivial, trivial⟩, trivial⟩⟩⟩, trivial⟩⟩, F38_ok n y_4.2.2.2.2.2.2 y_4.1 y_4.2.1 y_4.2.2.1 y_4.2.2.2.1 y_4.2.2.2.2.1 y_5.2.2.2.2.2.2.1 y_5.1 y_5.2.1 y_5.2.2.1 y_5.2.2.2.1 y_5.2.2.2.2.1 y_8 hx13⟩, ⟨trivial, ⟨⟨trivial, c14⟩, ⟨trivial, ⟨trivial, ⟨trivial, ⟨trivial, ⟨trivial, trivial⟩⟩⟩⟩⟩⟩⟩⟩⟩⟩⟩⟩⟩⟩⟩⟩⟩⟩⟩⟩⟩⟩⟩⟩
          refine TS.reg [.none, .none, (.call (.bool y_6) []), .dec true, .none, .none, (.call (.bool y_7) []), .none, .dec true, .none, .none, .none, .none, .dec true, .none, .none, (.call (.bool y_8) []), .none, .dec true] ?_ ?_
          · apply prop_of ?_ hq
            kernel_rfl
          refine XS.then ?_
          refine TS.ret ?_
          obtain rfl : (y_4.2.2.2.2.2.1 == y_5.2.2.2.2.2.1) = r := Option.some.inj h
          exact XS.fin [] ((True) ∧ (True)) (by kernel_rfl) ⟨trivial, trivial⟩
        · have hq : (True) ∧ ((True) ∧ (((((True) ∧ (((True) ∧ (True)) ∧ (((True) ∧ (True)) ∧ (True)))) ∧ (((True) ∧ (((True) ∧ (True)) ∧ (((True) ∧ (True)) ∧ (True)))) ∧ (True))) ∧ PureC Try.prog 38 [(.st (.cons (.sl (.st (.pair (.int .u64) (.pair (.int .i64) .bool))) y_2.2.2.2.2.2.2.1) (.cons (.st (.cons (.int .i64 y_2.1) (.int .i64 y_2.2.1))) (.cons (.st (.cons (.int .i64 y_2.2.2.1) (.int .i64 y_2.2.2.2.1))) (.int .i64 y_2.2.2.2.2.1))))), (.st (.cons (.sl (.st (.pair (.int .u64) (.pair (.int .i64) .bool))) y_3.2.2.2.2.2.2.1) (.cons (.st (.cons (.int .i64 y_3.1) (.int .i64 y_3.2.1))) (.cons (.st (.cons (.int .i64 y_3.2.2.1) (.int .i64 y_3.2.2.2.1))) (.int .i64 y_3.2.2.2.2.1)))))] (.bool y_6) []) ∧ (((True) ∧ y_6 = true) ∧ ((True) ∧ ((True) ∧ ((((True) ∧ ((True) ∧ (True))) ∧ PureC Try.prog 45 [(.sl (.int .u64) y_2.2.2.2.2.2.2.2), (.sl (.int .u64) y_3.2.2.2.2.2.2.2)] (.bool y_7) []) ∧ ((True) ∧ (((True) ∧ y_7 = true) ∧ ((True) ∧ ((True) ∧ ((True) ∧ ((True) ∧ (((True) ∧ (y_2.2.2.2.2.2.1 == y_3.2.2.2.2.2.1) = true) ∧ ((True) ∧ ((True) ∧ (((((True) ∧ (((True) ∧ (True)) ∧ (((True) ∧ (True)) ∧ (True)))) ∧ (((True) ∧ (((True) ∧ (True)) ∧ (((True) ∧ (True)) ∧ (True)))) ∧ (True))) ∧ PureC Try.prog 38 [(.st (.cons (.sl (.st (.pair (.int .u64) (.pair (.int .i64) .bool))) y_4.2.2.2.2.2.2) (.cons (.st (.cons (.int .i64 y_4.1) (.int .i64 y_4.2.1))) (.cons (.st (.cons (.int .i64 y_4.2.2.1) (.int .i64 y_4.2.2.2.1))) (.int .i64 y_4.2.2.2.2.1))))), (.st (.cons (.sl (.st (.pair (.int .u64) (.pair (.int .i64) .bool))) y_5.2.2.2.2.2.2.1) (.cons (.st (.cons (.int .i64 y_5.1) (.int .i64 y_5.2.1))) (.cons (.st (.cons (.int .i64 y_5.2.2.1) (.int .i64 y_5.2.2.2.1))) (.int .i64 y_5.2.2.2.2.1)))))] (.bool y_8) []) ∧ ((True) ∧ (((True) ∧ y_8 = false) ∧ ((True) ∧ ((True) ∧ (True))))))))))))))))))))) := ⟨trivial, ⟨trivial, ⟨⟨⟨⟨trivial, ⟨⟨trivial, trivial⟩, ⟨⟨trivial, trivial⟩, trivial⟩⟩⟩, ⟨⟨trivial, ⟨⟨trivial, trivial⟩, ⟨⟨trivial, trivial⟩, trivial⟩⟩⟩, trivial⟩⟩, F38_ok n y_2.2.2.2.2.2.2.1 y_2.1 y_2.2.1 y_2.2.2.1 y_2.2.2.2.1 y_2.2.2.2.2.1 y_3.2.2.2.2.2.2.1 y_3.1 y_3.2.1 y_3.2.2.1 y_3.2.2.2.1 y_3.2.2.2.2.1 y_6 hx5⟩, ⟨⟨trivial, c6⟩, ⟨trivial, ⟨trivial, ⟨⟨⟨trivial, ⟨trivial, trivial⟩⟩, F45_ok n y_2.2.2.2.2.2.2.2 y_3.2.2.2.2.2.2.2 y_7 hx8⟩, ⟨trivial, ⟨⟨trivial, c9⟩, ⟨trivial, ⟨trivial, ⟨trivial, ⟨trivial, ⟨⟨trivial, c11⟩, ⟨trivial, ⟨trivial, ⟨⟨⟨⟨trivial, ⟨⟨trivial, trivial⟩, ⟨⟨trivial, trivial⟩, trivial⟩⟩⟩, ⟨⟨trivial, ⟨⟨trivial, trivial⟩, ⟨⟨trivial, trivial⟩, trivial⟩⟩⟩, trivial⟩⟩, F38_ok n y_4.2.2.2.2.2.2 y_4.1 y_4.2.1 y_4.2.2.1 y_4.2.2.2.1 y_4.2.2.2.2.1 y_5.2.2.2.2.2.2.1 y_5.1 y_5.2.1 y_5.2.2.1 y_5.2.2.2.1 y_5.2.2.2.2.1 y_8 hx13⟩, ⟨trivial, ⟨⟨trivial, c15⟩, ⟨trivial, ⟨trivial, trivial⟩⟩⟩⟩⟩⟩⟩⟩⟩⟩⟩⟩⟩⟩⟩⟩⟩⟩⟩⟩⟩
          refine TS.reg [.none, .none, (.call (.bool y_6) []), .dec true, .none, .none, (.call (.bool y_7) []), .none, .dec true, .none, .none, .none, .none, .dec true, .none, .none, (.call (.bool y_8) []), .none, .dec false] ?_ ?_
          · apply prop_of ?_ hq
            kernel_rfl
          refine XS.then ?_
          refine TS.ret ?_
          obtain rfl : false = r := Option.some.inj h
          exact XS.fin [] ((True) ∧ (True)) (by kernel_rfl) ⟨trivial, trivial⟩
      · have hq : (True) ∧ ((True) ∧ (((((True) ∧ (((True) ∧ (True)) ∧ (((True) ∧ (True)) ∧ (True)))) ∧ (((True) ∧ (((True) ∧ (True)) ∧ (((True) ∧ (True)) ∧ (True)))) ∧ (True))) ∧ PureC Try.prog 38 [(.st (.cons (.sl (.st (.pair (.int .u64) (.pair (.int .i64) .bool))) y_2.2.2.2.2.2.2.1) (.cons (.st (.cons (.int .i64 y_2.1) (.int .i64 y_2.2.1))) (.cons (.st (.cons (.int .i64 y_2.2.2.1) (.int .i64 y_2.2.2.2.1))) (.int .i64 y_2.2.2.2.2.1))))), (.st (.cons (.sl (.st (.pair (.int .u64) (.pair (.int .i64) .bool))) y_3.2.2.2.2.2.2.1) (.cons (.st (.cons (.int .i64 y_3.1) (.int .i64 y_3.2.1))) (.cons (.st (.cons (.int .i64 y_3.2.2.1) (.int .i64 y_3.2.2.2.1))) (.int .i64 y_3.2.2.2.2.1)))))] (.bool y_6) []) ∧ (((True) ∧ y_6 = true) ∧ ((True) ∧ ((True) ∧ ((((True) ∧ ((True) ∧ (True))) ∧ PureC Try.prog 45 [(.sl (.int .u64) y_2.2.2.2.2.2.2.2), (.sl (.int .u64) y_3.2.2.2.2.2.2.2)] (.bool y_7) []) ∧ ((True) ∧ (((True) ∧ y_7 = true) ∧ ((True) ∧ ((True) ∧ ((True) ∧ ((True) ∧ (((True) ∧ (y_2.2.2.2.2.2.1 == y_3.2.2.2.2.2.1) = false) ∧ ((True) ∧ ((True) ∧ ((True) ∧ ((True) ∧ (True)))))))))))))))))) := ⟨trivial, ⟨trivial, ⟨⟨⟨⟨trivial, ⟨⟨trivial, trivial⟩, ⟨⟨trivial, trivial⟩, trivial⟩⟩⟩, ⟨⟨trivial, ⟨⟨trivial, trivial⟩, ⟨⟨trivial, trivial⟩, trivial⟩⟩⟩, trivial⟩⟩, F38_ok n y_2.2.2.2.2.2.2.1 y_2.1 y_2.2.1 y_2.2.2.1 y_2.2.2.2.1 y_2.2.2.2.2.1 y_3.2.2.2.2.2.2.1 y_3.1 y_3.2.1 y_3.2.2.1 y_3.2.2.2.1 y_3.2.2.2.2.1 y_6 hx5⟩, ⟨⟨trivial, c6⟩, ⟨trivial, ⟨trivial, ⟨⟨⟨trivial, ⟨trivial, trivial⟩⟩, F45_ok n y_2.2.2.2.2.2.2.2 y_3.2.2.2.2.2.2.2 y_7 hx8⟩, ⟨trivial, ⟨⟨trivial, c9⟩, ⟨trivial, ⟨trivial, ⟨trivial, ⟨trivial, ⟨⟨trivial, c12⟩, ⟨trivial, ⟨trivial, ⟨trivial, ⟨trivial, trivial⟩⟩⟩⟩⟩⟩⟩⟩⟩⟩⟩⟩⟩⟩⟩⟩⟩⟩
        refine TS.reg [.none, .none, (.call (.bool y_6) []), .dec true, .none, .none, (.call (.bool y_7) []), .none, .dec true, .none, .none, .none, .none, .dec false] ?_ ?_
        · apply prop_of ?_ hq
          kernel_rfl
        refine XS.then ?_
        refine TS.ret ?_
        obtain rfl : false = r := Option.some.inj h
        exact XS.fin [] ((True) ∧ (True)) (by kernel_rfl) ⟨trivial, trivial⟩
    · have hq : (True) ∧ ((True) ∧ (((((True) ∧ (((True) ∧ (True)) ∧ (((True) ∧ (True)) ∧ (True)))) ∧ (((True) ∧ (((True) ∧ (True)) ∧ (((True) ∧ (True)) ∧ (True)))) ∧ (True))) ∧ PureC Try.prog 38 [(.st (.cons (.sl (.st (.pair (.int .u64) (.pair (.int .i64) .bool))) y_2.2.2.2.2.2.2.1) (.cons (.st (.cons (.int .i64 y_2.1) (.int .i64 y_2.2.1))) (.cons (.st (.cons (.int .i64 y_2.2.2.1) (.int .i64 y_2.2.2.2.1))) (.int .i64 y_2.2.2.2.2.1))))), (.st (.cons (.sl (.st (.pair (.int .u64) (.pair (.int .i64) .bool))) y_3.2.2.2.2.2.2.1) (.cons (.st (.cons (.int .i64 y_3.1) (.int .i64 y_3.2.1))) (.cons (.st (.cons (.int .i64 y_3.2.2.1) (.int .i64 y_3.2.2.2.1))) (.int .i64 y_3.2.2.2.2.1)))))] (.bool y_6) []) ∧ (((True) ∧ y_6 = true) ∧ ((True) ∧ ((True) ∧ ((((True) ∧ ((True) ∧ (True))) ∧ PureC Try.prog 45 [(.sl (.int .u64) y_2.2.2.2.2.2.2.2), (.sl (.int .u64) y_3.2.2.2.2.2.2.2)] (.bool y_7) []) ∧ ((True) ∧ (((True) ∧ y_7 = false) ∧ ((True) ∧ ((True) ∧ ((True) ∧ ((True) ∧ ((True) ∧ ((True) ∧ (True))))))))))))))) := ⟨trivial, ⟨trivial, ⟨⟨⟨⟨trivial, ⟨⟨trivial, trivial⟩, ⟨⟨trivial, trivial⟩, trivial⟩⟩⟩, ⟨⟨trivial, ⟨⟨trivial, trivial⟩, ⟨⟨trivial, trivial⟩, trivial⟩⟩⟩, trivial⟩⟩, F38_ok n y_2.2.2.2.2.2.2.1 y_2.1 y_2.2.1 y_2.2.2.1 y_2.2.2.2.1 y_2.2.2.2.2.1 y_3.2.2.2.2.2.2.1 y_3.1 y_3.2.1 y_3.2.2.1 y_3.2.2.2.1 y_3.2.2.2.2.1 y_6 hx5⟩, ⟨⟨trivial, c6⟩, ⟨trivial, ⟨trivial, ⟨⟨⟨trivial, ⟨trivial, trivial⟩⟩, F45_ok n y_2.2.2.2.2.2.2.2 y_3.2.2.2.2.2.2.2 y_7 hx8⟩, ⟨trivial, ⟨⟨trivial, c10⟩, ⟨trivial, ⟨trivial, ⟨trivial, ⟨trivial, ⟨trivial, ⟨trivial, trivial⟩⟩⟩⟩⟩⟩⟩⟩⟩⟩⟩⟩⟩⟩⟩
      refine TS.reg [.none, .none, (.call (.bool y_6) []), .dec true, .none, .none, (.call (.bool y_7) []), .none, .dec false] ?_ ?_
      · apply prop_of ?_ hq
        kernel_rfl
      refine XS.then ?_
      refine TS.ret ?_
      obtain rfl : false = r := Option.some.inj h
      exact XS.fin [] ((True) ∧ (True)) (by kernel_rfl) ⟨trivial, trivial⟩
  · have hq : (True) ∧ ((True) ∧ (((((True) ∧ (((True) ∧ (True)) ∧ (((True) ∧ (True)) ∧ (True)))) ∧ (((True) ∧ (((True) ∧ (True)) ∧ (((True) ∧ (True)) ∧ (True)))) ∧ (True))) ∧ PureC Try.prog 38 [(.st (.cons (.sl (.st (.pair (.int .u64) (.pair (.int .i64) .bool))) y_2.2.2.2.2.2.2.1) (.cons (.st (.cons (.int .i64 y_2.1) (.int .i64 y_2.2.1))) (.cons (.st (.cons (.int .i64 y_2.2.2.1) (.int .i64 y_2.2.2.2.1))) (.int .i64 y_2.2.2.2.2.1))))), (.st (.cons (.sl (.st (.pair (.int .u64) (.pair (.int .i64) .bool))) y_3.2.2.2.2.2.2.1) (.cons (.st (.cons (.int .i64 y_3.1) (.int .i64 y_3.2.1))) (.cons (.st (.cons (.int .i64 y_3.2.2.1) (.int .i64 y_3.2.2.2.1))) (.int .i64 y_3.2.2.2.2.1)))))] (.bool y_6) []) ∧ (((True) ∧ y_6 = false) ∧ ((True) ∧ ((True) ∧ ((True) ∧ ((True) ∧ ((True) ∧ ((True) ∧ ((True) ∧ ((True) ∧ (True)))))))))))) := ⟨trivial, ⟨trivial, ⟨⟨⟨⟨trivial, ⟨⟨trivial, trivial⟩, ⟨⟨trivial, trivial⟩, trivial⟩⟩⟩, ⟨⟨trivial, ⟨⟨trivial, trivial⟩, ⟨⟨trivial, trivial⟩, trivial⟩⟩⟩, trivial⟩⟩, F38_ok n y_2.2.2.2.2.2.2.1 y_2.1 y_2.2.1 y_2.2.2.1 y_2.2.2.2.1 y_2.2.2.2.2.1 y_3.2.2.2.2.2.2.1 y_3.1 y_3.2.1 y_3.2.2.1 y_3.2.2.2.1 y_3.2.2.2.2.1 y_6 hx5⟩, ⟨⟨trivial, c7⟩, ⟨trivial, ⟨trivial, ⟨trivial, ⟨trivial, ⟨trivial, ⟨trivial, ⟨trivial, ⟨trivial, trivial⟩⟩⟩⟩⟩⟩⟩⟩⟩⟩⟩⟩
    refine TS.reg [.none, .none, (.call (.bool y_6) []), .dec false] ?_ ?_
    · apply prop_of ?_ hq
      kernel_rfl
    refine XS.then ?_
    refine TS.ret ?_
    obtain rfl : false = r := Option.some.inj h
    exact XS.fin [] ((True) ∧ (True)) (by kernel_rfl) ⟨trivial, trivial⟩
end Go.Proofs.Ytkhfbleldchnpaa
