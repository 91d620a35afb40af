/- Functions of the program, as functions of values. -/
import Derived.Test.YtkhfbleldchnpaaAm24
import Derived.Test.YtkhfbleldchnpaaChecked
namespace Go.Proofs.Ytkhfbleldchnpaa
open Go Go.RowKit
set_option linter.unusedVariables false
set_option maxRecDepth 100000

/-! plugtree/ring.Check$1 -/
def F78 (n : Nat) (b : Int) : Option Bool := (bif (b == (0 : Int)) then (some true) else (some (b == (1 : Int))))
theorem F78_ok (n : Nat) (b : Int) (r : Bool) (h : F78 n b = some r) : PureC Try.prog 78 [(.int .i64 b)] (.bool r) [] := by
  refine PureC.mkS Try.func78 rfl rfl ?_
  intro w0 fz0 hfz
  replace h : (bif (b == (0 : Int)) then (some true) else (some (b == (1 : Int)))) = some r := h
  refine TS.seq ?_
  have hq : (True) ∧ (True) := ⟨trivial, trivial⟩
  refine TS.reg [] ?_ ?_
  · apply prop_of ?_ hq
    kernel_rfl
  refine XS.then ?_
  refine TS.seq ?_
  rcases bif_some h with ⟨c1, h⟩ | ⟨c2, h⟩
  · have hq : (True) ∧ ((True) ∧ (((True) ∧ (b == (0 : Int)) = true) ∧ ((True) ∧ ((True) ∧ (True))))) := ⟨trivial, ⟨trivial, ⟨⟨trivial, c1⟩, ⟨trivial, ⟨trivial, trivial⟩⟩⟩⟩⟩
    refine TS.reg [.none, .none, .dec true] ?_ ?_
    · apply prop_of ?_ hq
      kernel_rfl
    refine XS.then ?_
    refine TS.ret ?_
    obtain rfl : true = r := Option.some.inj h
    exact XS.fin [] ((True) ∧ (True)) (by kernel_rfl) ⟨trivial, trivial⟩
  · have hq : (True) ∧ ((True) ∧ (((True) ∧ (b == (0 : Int)) = false) ∧ ((True) ∧ ((True) ∧ ((True) ∧ ((True) ∧ (True))))))) := ⟨trivial, ⟨trivial, ⟨⟨trivial, c2⟩, ⟨trivial, ⟨trivial, ⟨trivial, ⟨trivial, trivial⟩⟩⟩⟩⟩⟩⟩
    refine TS.reg [.none, .none, .dec false] ?_ ?_
    · apply prop_of ?_ hq
      kernel_rfl
    refine XS.then ?_
    refine TS.ret ?_
    obtain rfl : (b == (1 : Int)) = r := Option.some.inj h
    exact XS.fin [] ((True) ∧ (True)) (by kernel_rfl) ⟨trivial, trivial⟩

/-! plugtree/ring.Check$2 -/
def F79 (n : Nat) (k : Int) (x : Int) : Option Bool := (bif (decide (k ≥ (0 : Int))) then (some (decide (k < (IntKind.wrap .i64 (x - (1 : Int)))))) else (some false))
theorem F79_ok (n : Nat) (k : Int) (x : Int) (r : Bool) (h : F79 n k x = some r) : PureC Try.prog 79 [(.int .i64 k), (.pv (.int .i64 x))] (.bool r) [] := by
  refine PureC.mkS Try.func79 rfl rfl ?_
  intro w0 fz0 hfz
  replace h : (bif (decide (k ≥ (0 : Int))) then (some (decide (k < (IntKind.wrap .i64 (x - (1 : Int)))))) else (some false)) = some r := h
  refine TS.seq ?_
  have hq : (True) ∧ (True) := ⟨trivial, trivial⟩
  refine TS.reg [] ?_ ?_
  · apply prop_of ?_ hq
    kernel_rfl
  refine XS.then ?_
  refine TS.seq ?_
  rcases bif_some h with ⟨c1, h⟩ | ⟨c2, h⟩
  · have hq : (True) ∧ ((True) ∧ (((True) ∧ (decide (k ≥ (0 : Int))) = true) ∧ ((True) ∧ ((True) ∧ ((True) ∧ ((True) ∧ ((True) ∧ ((True) ∧ (True))))))))) := ⟨trivial, ⟨trivial, ⟨⟨trivial, c1⟩, ⟨trivial, ⟨trivial, ⟨trivial, ⟨trivial, ⟨trivial, ⟨trivial, trivial⟩⟩⟩⟩⟩⟩⟩⟩⟩
    refine TS.reg [.none, .none, .dec true] ?_ ?_
    · apply prop_of ?_ hq
      kernel_rfl
    refine XS.then ?_
    refine TS.ret ?_
    obtain rfl : (decide (k < (IntKind.wrap .i64 (x - (1 : Int))))) = r := Option.some.inj h
    exact XS.fin [] ((True) ∧ (True)) (by kernel_rfl) ⟨trivial, trivial⟩
  · have hq : (True) ∧ ((True) ∧ (((True) ∧ (decide (k ≥ (0 : Int))) = false) ∧ ((True) ∧ ((True) ∧ (True))))) := ⟨trivial, ⟨trivial, ⟨⟨trivial, c2⟩, ⟨trivial, ⟨trivial, trivial⟩⟩⟩⟩⟩
    refine TS.reg [.none, .none, .dec false] ?_ ?_
    · apply prop_of ?_ hq
      kernel_rfl
    refine XS.then ?_
    refine TS.ret ?_
    obtain rfl : false = r := Option.some.inj h
    exact XS.fin [] ((True) ∧ (True)) (by kernel_rfl) ⟨trivial, trivial⟩

/-! plugtree/ring.Check -/
def F36_l2 (n : Nat) (r_Cells : List (Int × Int × Bool)) (r_Put_At : Int) (r_Put_Bit : Int) (r_Get_At : Int) (r_Get_Bit : Int) (r_Seen : Int) (k36_2 : Int → Option Int) : Int → Option Int
  | x => (bif (decide (x < ((r_Cells.length : Nat) : Int))) then (bif inb x r_Cells.length then (bif (!((r_Cells.getD x.toNat ((0 : Int), ((0 : Int), false))).2.2 == (x == (IntKind.wrap .i64 (((r_Cells.length : Nat) : Int) - (1 : Int)))))) then (some (4 : Int)) else ((F78 n ((r_Cells.getD x.toNat ((0 : Int), ((0 : Int), false))).2.1)).bind fun y_2 => (bif (!y_2) then (some (4 : Int)) else (k36_2 (IntKind.wrap .i64 (x + (1 : Int))))))) else none) else ((F78 n r_Put_Bit).bind fun y_3 => (bif (!y_3) then (some (4 : Int)) else ((F78 n r_Get_Bit).bind fun y_4 => (bif (!y_4) then (some (4 : Int)) else (bif inb (IntKind.wrap .i64 (((r_Cells.length : Nat) : Int) - (1 : Int))) r_Cells.length then (bif ((r_Cells.getD ((IntKind.wrap .i64 (((r_Cells.length : Nat) : Int) - (1 : Int))).toNat) ((0 : Int), ((0 : Int), false))).1 != (0 : Int)) then (some (4 : Int)) else ((F79 n r_Put_At ((r_Cells.length : Nat) : Int)).bind fun y_5 => (bif (!y_5) then (some (4 : Int)) else ((F79 n r_Get_At ((r_Cells.length : Nat) : Int)).bind fun y_6 => (bif (!y_6) then (some (4 : Int)) else ((F79 n r_Seen ((r_Cells.length : Nat) : Int)).bind fun y_7 => (bif (!y_7) then (some (4 : Int)) else (some (0 : Int))))))))) else none))))))
def F36 (n : Nat) (r_Cells : List (Int × Int × Bool)) (r_Put_At : Int) (r_Put_Bit : Int) (r_Get_At : Int) (r_Get_Bit : Int) (r_Seen : Int) : Option Int := (bif (decide (((r_Cells.length : Nat) : Int) < (3 : Int))) then (some (1 : Int)) else (bif (decide (((r_Cells.length : Nat) : Int) > (64 : Int))) then (some (1 : Int)) else (loopF (F36_l2 n r_Cells r_Put_At r_Put_Bit r_Get_At r_Get_Bit r_Seen) n (0 : Int))))
theorem F36_ok (n : Nat) (r_Cells : List (Int × Int × Bool)) (r_Put_At : Int) (r_Put_Bit : Int) (r_Get_At : Int) (r_Get_Bit : Int) (r_Seen : Int) (r : Int) (h : F36 n r_Cells r_Put_At r_Put_Bit r_Get_At r_Get_Bit r_Seen = some r) : PureC Try.prog 36 [(.st (.cons (.sl (.st (.pair (.int .u64) (.pair (.int .i64) .bool))) r_Cells) (.cons (.st (.cons (.int .i64 r_Put_At) (.int .i64 r_Put_Bit))) (.cons (.st (.cons (.int .i64 r_Get_At) (.int .i64 r_Get_Bit))) (.int .i64 r_Seen)))))] (.int .i64 r) [] := by
  refine PureC.mkS Try.func36 rfl rfl ?_
  intro w0 fz0 hfz
  replace h : (bif (decide (((r_Cells.length : Nat) : Int) < (3 : Int))) then (some (1 : Int)) else (bif (decide (((r_Cells.length : Nat) : Int) > (64 : Int))) then (some (1 : Int)) else (loopF (F36_l2 n r_Cells r_Put_At r_Put_Bit r_Get_At r_Get_Bit r_Seen) n (0 : Int)))) = some r := h
  refine TS.seq ?_
  have hq : (True) ∧ ((True) ∧ (True)) := ⟨trivial, ⟨trivial, trivial⟩⟩
  refine TS.reg [] ?_ ?_
  · apply prop_of ?_ hq
    kernel_rfl
  refine XS.then ?_
  refine TS.seq ?_
  have hq : (True) ∧ ((True) ∧ ((True) ∧ ((True) ∧ ((True) ∧ (True))))) := ⟨trivial, ⟨trivial, ⟨trivial, ⟨trivial, ⟨trivial, trivial⟩⟩⟩⟩⟩
  refine TS.reg [] ?_ ?_
  · apply prop_of ?_ hq
    kernel_rfl
  refine XS.then ?_
  refine TS.seq ?_
  refine TS.seq ?_
  rcases bif_some h with ⟨c1, h⟩ | ⟨c2, h⟩
  · have hq : (True) ∧ ((True) ∧ (((True) ∧ (decide (((r_Cells.length : Nat) : Int) < (3 : Int))) = true) ∧ ((True) ∧ (True)))) := ⟨trivial, ⟨trivial, ⟨⟨trivial, c1⟩, ⟨trivial, trivial⟩⟩⟩⟩
    refine TS.reg [.none, .none, .dec true] ?_ ?_
    · apply prop_of ?_ hq
      kernel_rfl
    refine XS.then ?_
    refine TS.yes ?_ ?_
    · kernel_rfl
    refine TS.seq ?_
    have hq : (True) ∧ (True) := ⟨trivial, trivial⟩
    refine TS.reg [] ?_ ?_
    · apply prop_of ?_ hq
      kernel_rfl
    refine XS.then ?_
    refine TS.ret ?_
    refine XS.passR ?_
    obtain rfl : (1 : Int) = r := Option.some.inj h
    exact XS.fin [] ((True) ∧ (True)) (by kernel_rfl) ⟨trivial, trivial⟩
  · have hq : (True) ∧ ((True) ∧ (((True) ∧ (decide (((r_Cells.length : Nat) : Int) < (3 : Int))) = false) ∧ ((True) ∧ ((True) ∧ ((True) ∧ (True)))))) := ⟨trivial, ⟨trivial, ⟨⟨trivial, c2⟩, ⟨trivial, ⟨trivial, ⟨trivial, trivial⟩⟩⟩⟩⟩⟩
    refine TS.reg [.none, .none, .dec false] ?_ ?_
    · apply prop_of ?_ hq
      kernel_rfl
    refine XS.then ?_
    rcases bif_some h with ⟨c3, h⟩ | ⟨c4, h⟩
    · refine TS.cond (decide (((r_Cells.length : Nat) : Int) > (64 : Int))) ?_ (fun e => ?_) (fun e => by rw [c3] at e; cases e)
      · kernel_rfl
      refine TS.seq ?_
      have hq : (True) ∧ (True) := ⟨trivial, trivial⟩
      refine TS.reg [] ?_ ?_
      · apply prop_of ?_ hq
        kernel_rfl
      refine XS.then ?_
      refine TS.ret ?_
      refine XS.passR ?_
      obtain rfl : (1 : Int) = r := Option.some.inj h
      exact XS.fin [] ((True) ∧ (True)) (by kernel_rfl) ⟨trivial, trivial⟩
    · refine TS.cond (decide (((r_Cells.length : Nat) : Int) > (64 : Int))) ?_ (fun e => by rw [c4] at e; cases e) (fun e => ?_)
      · kernel_rfl
      refine TS.skip ?_
      refine XS.then ?_
      refine TS.seq ?_
      have hq : (True) ∧ (True) := ⟨trivial, trivial⟩
      refine TS.reg [] ?_ ?_
      · apply prop_of ?_ hq
        kernel_rfl
      refine XS.then ?_
      refine TS.seq ?_
      have hq : (True) ∧ ((True) ∧ (True)) := ⟨trivial, ⟨trivial, trivial⟩⟩
      refine TS.reg [] ?_ ?_
      · apply prop_of ?_ hq
        kernel_rfl
      refine XS.then ?_
      refine TS.seq ?_
      refine TS.seq ?_
      have hq : (True) ∧ ((True) ∧ ((True) ∧ ((True) ∧ (True)))) := ⟨trivial, ⟨trivial, ⟨trivial, ⟨trivial, trivial⟩⟩⟩⟩
      refine TS.reg [] ?_ ?_
      · apply prop_of ?_ hq
        kernel_rfl
      refine XS.then ?_
      refine TS.block ?_
      refine TS.reLoop [0, 1] (mkMask 88 [1, 3, 4, 5, 19, 20, 21]) (D := Int) (fun d => match d with | x => (mkTs 88 [(1, (.ptr 0 [])), (3, (.ptr 1 [])), (4, (.fn 78 .nil)), (5, (.fn 79 (.cons (.ptr 1 []) .nil))), (19, (.sl (.st (.pair (.int .u64) (.pair (.int .i64) .bool))) r_Cells)), (20, (.int .i64 ((r_Cells.length : Nat) : Int))), (21, (.int .i64 x))], [(.box 65 (.st (.cons (.sl (.st (.pair (.int .u64) (.pair (.int .i64) .bool))) r_Cells) (.cons (.st (.cons (.int .i64 r_Put_At) (.int .i64 r_Put_Bit))) (.cons (.st (.cons (.int .i64 r_Get_At) (.int .i64 r_Get_Bit))) (.int .i64 r_Seen)))))), (.box 3 (.int .i64 ((r_Cells.length : Nat) : Int)))])) (fun n' d => loopF (F36_l2 n r_Cells r_Put_At r_Put_Bit r_Get_At r_Get_Bit r_Seen) n' d = some r) n (0 : Int) h ?_ (fun d => loopF_zero _ d r) ?_
      · kernel_rfl
      · rintro n2 x h
        replace h : (bif (decide (x < ((r_Cells.length : Nat) : Int))) then (bif inb x r_Cells.length then (bif (!((r_Cells.getD x.toNat ((0 : Int), ((0 : Int), false))).2.2 == (x == (IntKind.wrap .i64 (((r_Cells.length : Nat) : Int) - (1 : Int)))))) then (some (4 : Int)) else ((F78 n ((r_Cells.getD x.toNat ((0 : Int), ((0 : Int), false))).2.1)).bind fun y_2 => (bif (!y_2) then (some (4 : Int)) else ((loopF (F36_l2 n r_Cells r_Put_At r_Put_Bit r_Get_At r_Get_Bit r_Seen) n2) (IntKind.wrap .i64 (x + (1 : Int))))))) else none) else ((F78 n r_Put_Bit).bind fun y_3 => (bif (!y_3) then (some (4 : Int)) else ((F78 n r_Get_Bit).bind fun y_4 => (bif (!y_4) then (some (4 : Int)) else (bif inb (IntKind.wrap .i64 (((r_Cells.length : Nat) : Int) - (1 : Int))) r_Cells.length then (bif ((r_Cells.getD ((IntKind.wrap .i64 (((r_Cells.length : Nat) : Int) - (1 : Int))).toNat) ((0 : Int), ((0 : Int), false))).1 != (0 : Int)) then (some (4 : Int)) else ((F79 n r_Put_At ((r_Cells.length : Nat) : Int)).bind fun y_5 => (bif (!y_5) then (some (4 : Int)) else ((F79 n r_Get_At ((r_Cells.length : Nat) : Int)).bind fun y_6 => (bif (!y_6) then (some (4 : Int)) else ((F79 n r_Seen ((r_Cells.length : Nat) : Int)).bind fun y_7 => (bif (!y_7) then (some (4 : Int)) else (some (0 : Int))))))))) else none)))))) = some r := h
        refine TS.seq ?_
        have hq : (True) ∧ (True) := ⟨trivial, trivial⟩
        refine TS.reg [] ?_ ?_
        · apply prop_of ?_ hq
          kernel_rfl
        refine XS.then ?_
        refine TS.seq ?_
        rcases bif_some h with ⟨c5, h⟩ | ⟨c6, h⟩
        · refine TS.cond (decide (x < ((r_Cells.length : Nat) : Int))) ?_ (fun e => ?_) (fun e => by rw [c5] at e; cases e)
          · kernel_rfl
          refine TS.skip ?_
          refine XS.then ?_
          refine TS.seq ?_
          refine TS.block ?_
          refine TS.seq ?_
          obtain ⟨t7, h⟩ := test_some h
          have hq : (True) ∧ ((inR x r_Cells.length) ∧ ((True) ∧ ((True) ∧ ((True) ∧ ((True) ∧ (True)))))) := ⟨trivial, ⟨inb_ok t7, ⟨trivial, ⟨trivial, ⟨trivial, ⟨trivial, trivial⟩⟩⟩⟩⟩⟩
          refine TS.reg [] ?_ ?_
          · apply prop_of ?_ hq
            kernel_rfl
          refine XS.then ?_
          refine TS.seq ?_
          rcases bif_some h with ⟨c8, h⟩ | ⟨c9, h⟩
          · have hq : (True) ∧ ((True) ∧ ((True) ∧ ((True) ∧ ((True) ∧ ((True) ∧ ((True) ∧ (((True) ∧ (!((r_Cells.getD x.toNat ((0 : Int), ((0 : Int), false))).2.2 == (x == (IntKind.wrap .i64 (((r_Cells.length : Nat) : Int) - (1 : Int)))))) = true) ∧ ((True) ∧ (True))))))))) := ⟨trivial, ⟨trivial, ⟨trivial, ⟨trivial, ⟨trivial, ⟨trivial, ⟨trivial, ⟨⟨trivial, c8⟩, ⟨trivial, trivial⟩⟩⟩⟩⟩⟩⟩⟩⟩
            refine TS.reg [.none, .none, .none, .none, .none, .none, .none, .dec true] ?_ ?_
            · apply prop_of ?_ hq
              kernel_rfl
            refine XS.then ?_
            refine TS.yes ?_ ?_
            · kernel_rfl
            refine TS.seq ?_
            have hq : (True) ∧ (True) := ⟨trivial, trivial⟩
            refine TS.reg [] ?_ ?_
            · apply prop_of ?_ hq
              kernel_rfl
            refine XS.then ?_
            refine TS.ret ?_
            refine XS.blockRet ?_
            refine XS.passR ?_
            refine XS.passR ?_
            refine XS.blockRet ?_
            refine XS.passR ?_
            obtain rfl : (4 : Int) = r := Option.some.inj h
            exact XS.fin [] ((True) ∧ (True)) (by kernel_rfl) ⟨trivial, trivial⟩
          · obtain ⟨y_2, hx10, h⟩ := bind_some' h
            have hq : (True) ∧ ((True) ∧ ((True) ∧ ((True) ∧ ((True) ∧ ((True) ∧ ((True) ∧ (((True) ∧ (!((r_Cells.getD x.toNat ((0 : Int), ((0 : Int), false))).2.2 == (x == (IntKind.wrap .i64 (((r_Cells.length : Nat) : Int) - (1 : Int)))))) = false) ∧ ((True) ∧ ((True) ∧ ((True) ∧ ((PureC Try.prog 78 [(.int .i64 (r_Cells.getD x.toNat ((0 : Int), ((0 : Int), false))).2.1)] (.bool y_2) []) ∧ ((True) ∧ ((True) ∧ (True)))))))))))))) := ⟨trivial, ⟨trivial, ⟨trivial, ⟨trivial, ⟨trivial, ⟨trivial, ⟨trivial, ⟨⟨trivial, c9⟩, ⟨trivial, ⟨trivial, ⟨trivial, ⟨F78_ok n ((r_Cells.getD x.toNat ((0 : Int), ((0 : Int), false))).2.1) y_2 hx10, ⟨trivial, ⟨trivial, trivial⟩⟩⟩⟩⟩⟩⟩⟩⟩⟩⟩⟩⟩⟩
            refine TS.reg [.none, .none, .none, .none, .none, .none, .none, .dec false, .none, .none, .none, (.call (.bool y_2) [])] ?_ ?_
            · apply prop_of ?_ hq
              kernel_rfl
            refine XS.then ?_
            rcases bif_some h with ⟨c11, h⟩ | ⟨c12, h⟩
            · refine TS.cond (!y_2) ?_ (fun e => ?_) (fun e => by rw [c11] at e; cases e)
              · kernel_rfl
              refine TS.seq ?_
              have hq : (True) ∧ (True) := ⟨trivial, trivial⟩
              refine TS.reg [] ?_ ?_
              · apply prop_of ?_ hq
                kernel_rfl
              refine XS.then ?_
              refine TS.ret ?_
              refine XS.blockRet ?_
              refine XS.passR ?_
              refine XS.passR ?_
              refine XS.blockRet ?_
              refine XS.passR ?_
              obtain rfl : (4 : Int) = r := Option.some.inj h
              exact XS.fin [] ((True) ∧ (True)) (by kernel_rfl) ⟨trivial, trivial⟩
            · refine TS.cond (!y_2) ?_ (fun e => by rw [c12] at e; cases e) (fun e => ?_)
              · kernel_rfl
              refine TS.skip ?_
              refine XS.blockEnd ?_
              refine XS.then ?_
              have hq : (True) ∧ ((True) ∧ (True)) := ⟨trivial, ⟨trivial, trivial⟩⟩
              refine TS.reg [] ?_ ?_
              · apply prop_of ?_ hq
                kernel_rfl
              refine XS.reAny [0, 1] (mkMask 88 [1, 3, 4, 5, 19, 20, 21]) (IntKind.wrap .i64 (x + (1 : Int))) h ?_
              kernel_rfl
        · refine TS.cond (decide (x < ((r_Cells.length : Nat) : Int))) ?_ (fun e => by rw [c6] at e; cases e) (fun e => ?_)
          · kernel_rfl
          refine TS.exit ?_
          refine XS.passE ?_
          refine XS.passE ?_
          refine XS.out ?_
          refine XS.then ?_
          refine TS.seq ?_
          refine TS.seq ?_
          obtain ⟨y_3, hx13, h⟩ := bind_some' h
          rcases bif_some h with ⟨c14, h⟩ | ⟨c15, h⟩
          · have hq : (True) ∧ ((True) ∧ ((True) ∧ ((True) ∧ ((PureC Try.prog 78 [(.int .i64 r_Put_Bit)] (.bool y_3) []) ∧ ((True) ∧ (((True) ∧ (!y_3) = true) ∧ ((True) ∧ ((True) ∧ ((True) ∧ ((True) ∧ ((True) ∧ ((True) ∧ ((True) ∧ ((True) ∧ ((True) ∧ (True)))))))))))))))) := ⟨trivial, ⟨trivial, ⟨trivial, ⟨trivial, ⟨F78_ok n r_Put_Bit y_3 hx13, ⟨trivial, ⟨⟨trivial, c14⟩, ⟨trivial, ⟨trivial, ⟨trivial, ⟨trivial, ⟨trivial, ⟨trivial, ⟨trivial, ⟨trivial, ⟨trivial, trivial⟩⟩⟩⟩⟩⟩⟩⟩⟩⟩⟩⟩⟩⟩⟩⟩
            refine TS.reg [.none, .none, .none, .none, (.call (.bool y_3) []), .none, .dec true] ?_ ?_
            · apply prop_of ?_ hq
              kernel_rfl
            refine XS.then ?_
            refine TS.yes ?_ ?_
            · kernel_rfl
            refine TS.seq ?_
            have hq : (True) ∧ (True) := ⟨trivial, trivial⟩
            refine TS.reg [] ?_ ?_
            · apply prop_of ?_ hq
              kernel_rfl
            refine XS.then ?_
            refine TS.ret ?_
            refine XS.passR ?_
            obtain rfl : (4 : Int) = r := Option.some.inj h
            exact XS.fin [] ((True) ∧ (True)) (by kernel_rfl) ⟨trivial, trivial⟩
          · obtain ⟨y_4, hx16, h⟩ := bind_some' h
            rcases bif_some h with ⟨c17, h⟩ | ⟨c18, h⟩
            · have hq : (True) ∧ ((True) ∧ ((True) ∧ ((True) ∧ ((PureC Try.prog 78 [(.int .i64 r_Put_Bit)] (.bool y_3) []) ∧ ((True) ∧ (((True) ∧ (!y_3) = false) ∧ ((True) ∧ ((True) ∧ ((True) ∧ ((True) ∧ ((PureC Try.prog 78 [(.int .i64 r_Get_Bit)] (.bool y_4) []) ∧ ((True) ∧ ((True) ∧ (((True) ∧ (!y_4) = true) ∧ ((True) ∧ ((True) ∧ ((True) ∧ ((True) ∧ ((True) ∧ ((True) ∧ ((True) ∧ (True)))))))))))))))))))))) := ⟨trivial, ⟨trivial, ⟨trivial, ⟨trivial, ⟨F78_ok n r_Put_Bit y_3 hx13, ⟨trivial, ⟨⟨trivial, c15⟩, ⟨trivial, ⟨trivial, ⟨trivial, ⟨trivial, ⟨F78_ok n r_Get_Bit y_4 hx16, ⟨trivial, ⟨trivial, ⟨⟨trivial, c17⟩, ⟨trivial, ⟨trivial, ⟨trivial, ⟨trivial, ⟨trivial, ⟨trivial, ⟨trivial, trivial⟩⟩⟩⟩⟩⟩⟩⟩⟩⟩⟩⟩⟩⟩⟩⟩⟩⟩⟩⟩⟩⟩
              refine TS.reg [.none, .none, .none, .none, (.call (.bool y_3) []), .none, .dec false, .none, .none, .none, .none, (.call (.bool y_4) []), .none, .none, .dec true] ?_ ?_
              · apply prop_of ?_ hq
                kernel_rfl
              refine XS.then ?_
              refine TS.yes ?_ ?_
              · kernel_rfl
              refine TS.seq ?_
              have hq : (True) ∧ (True) := ⟨trivial, trivial⟩
              refine TS.reg [] ?_ ?_
              · apply prop_of ?_ hq
                kernel_rfl
              refine XS.then ?_
              refine TS.ret ?_
              refine XS.passR ?_
              obtain rfl : (4 : Int) = r := Option.some.inj h
              exact XS.fin [] ((True) ∧ (True)) (by kernel_rfl) ⟨trivial, trivial⟩
            · obtain ⟨t19, h⟩ := test_some h
              rcases bif_some h with ⟨c20, h⟩ | ⟨c21, h⟩
              · have hq : (True) ∧ ((True) ∧ ((True) ∧ ((True) ∧ ((PureC Try.prog 78 [(.int .i64 r_Put_Bit)] (.bool y_3) []) ∧ ((True) ∧ (((True) ∧ (!y_3) = false) ∧ ((True) ∧ ((True) ∧ ((True) ∧ ((True) ∧ ((PureC Try.prog 78 [(.int .i64 r_Get_Bit)] (.bool y_4) []) ∧ ((True) ∧ ((True) ∧ (((True) ∧ (!y_4) = false) ∧ ((True) ∧ ((True) ∧ ((True) ∧ ((True) ∧ ((inR (IntKind.wrap .i64 (((r_Cells.length : Nat) : Int) - (1 : Int))) r_Cells.length) ∧ ((True) ∧ ((True) ∧ ((True) ∧ ((True) ∧ (((True) ∧ ((r_Cells.getD ((IntKind.wrap .i64 (((r_Cells.length : Nat) : Int) - (1 : Int))).toNat) ((0 : Int), ((0 : Int), false))).1 != (0 : Int)) = true) ∧ ((True) ∧ ((True) ∧ ((True) ∧ ((True) ∧ ((True) ∧ (True)))))))))))))))))))))))))))))) := ⟨trivial, ⟨trivial, ⟨trivial, ⟨trivial, ⟨F78_ok n r_Put_Bit y_3 hx13, ⟨trivial, ⟨⟨trivial, c15⟩, ⟨trivial, ⟨trivial, ⟨trivial, ⟨trivial, ⟨F78_ok n r_Get_Bit y_4 hx16, ⟨trivial, ⟨trivial, ⟨⟨trivial, c18⟩, ⟨trivial, ⟨trivial, ⟨trivial, ⟨trivial, ⟨inb_ok t19, ⟨trivial, ⟨trivial, ⟨trivial, ⟨trivial, ⟨⟨trivial, c20⟩, ⟨trivial, ⟨trivial, ⟨trivial, ⟨trivial, ⟨trivial, trivial⟩⟩⟩⟩⟩⟩⟩⟩⟩⟩⟩⟩⟩⟩⟩⟩⟩⟩⟩⟩⟩⟩⟩⟩⟩⟩⟩⟩⟩⟩
                refine TS.reg [.none, .none, .none, .none, (.call (.bool y_3) []), .none, .dec false, .none, .none, .none, .none, (.call (.bool y_4) []), .none, .none, .dec false, .none, .none, .none, .none, .none, .none, .none, .none, .none, .dec true] ?_ ?_
                · apply prop_of ?_ hq
                  kernel_rfl
                refine XS.then ?_
                refine TS.yes ?_ ?_
                · kernel_rfl
                refine TS.seq ?_
                have hq : (True) ∧ (True) := ⟨trivial, trivial⟩
                refine TS.reg [] ?_ ?_
                · apply prop_of ?_ hq
                  kernel_rfl
                refine XS.then ?_
                refine TS.ret ?_
                refine XS.passR ?_
                obtain rfl : (4 : Int) = r := Option.some.inj h
                exact XS.fin [] ((True) ∧ (True)) (by kernel_rfl) ⟨trivial, trivial⟩
              · obtain ⟨y_5, hx22, h⟩ := bind_some' h
                rcases bif_some h with ⟨c23, h⟩ | ⟨c24, h⟩
                · have hq : (True) ∧ ((True) ∧ ((True) ∧ ((True) ∧ ((PureC Try.prog 78 [(.int .i64 r_Put_Bit)] (.bool y_3) []) ∧ ((True) ∧ (((True) ∧ (!y_3) = false) ∧ ((True) ∧ ((True) ∧ ((True) ∧ ((True) ∧ ((PureC Try.prog 78 [(.int .i64 r_Get_Bit)] (.bool y_4) []) ∧ ((True) ∧ ((True) ∧ (((True) ∧ (!y_4) = false) ∧ ((True) ∧ ((True) ∧ ((True) ∧ ((True) ∧ ((inR (IntKind.wrap .i64 (((r_Cells.length : Nat) : Int) - (1 : Int))) r_Cells.length) ∧ ((True) ∧ ((True) ∧ ((True) ∧ ((True) ∧ (((True) ∧ ((r_Cells.getD ((IntKind.wrap .i64 (((r_Cells.length : Nat) : Int) - (1 : Int))).toNat) ((0 : Int), ((0 : Int), false))).1 != (0 : Int)) = false) ∧ ((True) ∧ ((True) ∧ ((True) ∧ ((True) ∧ ((((True) ∧ ((True) ∧ (True))) ∧ PureC Try.prog 79 [(.int .i64 r_Put_At), (.pv (.int .i64 ((r_Cells.length : Nat) : Int)))] (.bool y_5) []) ∧ ((True) ∧ ((True) ∧ (((True) ∧ (!y_5) = true) ∧ ((True) ∧ ((True) ∧ ((True) ∧ (True)))))))))))))))))))))))))))))))))))) := ⟨trivial, ⟨trivial, ⟨trivial, ⟨trivial, ⟨F78_ok n r_Put_Bit y_3 hx13, ⟨trivial, ⟨⟨trivial, c15⟩, ⟨trivial, ⟨trivial, ⟨trivial, ⟨trivial, ⟨F78_ok n r_Get_Bit y_4 hx16, ⟨trivial, ⟨trivial, ⟨⟨trivial, c18⟩, ⟨trivial, ⟨trivial, ⟨trivial, ⟨trivial, ⟨inb_ok t19, ⟨trivial, ⟨trivial, ⟨trivial, ⟨trivial, ⟨⟨trivial, c21⟩, ⟨trivial, ⟨trivial, ⟨trivial, ⟨trivial, ⟨⟨⟨trivial, ⟨trivial, trivial⟩⟩, F79_ok n r_Put_At ((r_Cells.length : Nat) : Int) y_5 hx22⟩, ⟨trivial, ⟨trivial, ⟨⟨trivial, c23⟩, ⟨trivial, ⟨trivial, ⟨trivial, trivial⟩⟩⟩⟩⟩⟩⟩⟩⟩⟩⟩⟩⟩⟩⟩⟩⟩⟩⟩⟩⟩⟩⟩⟩⟩⟩⟩⟩⟩⟩⟩⟩⟩⟩⟩⟩
                  refine TS.reg [.none, .none, .none, .none, (.call (.bool y_3) []), .none, .dec false, .none, .none, .none, .none, (.call (.bool y_4) []), .none, .none, .dec false, .none, .none, .none, .none, .none, .none, .none, .none, .none, .dec false, .none, .none, .none, .none, (.call (.bool y_5) []), .none, .none, .dec true] ?_ ?_
                  · apply prop_of ?_ hq
                    kernel_rfl
                  refine XS.then ?_
                  refine TS.yes ?_ ?_
                  · kernel_rfl
                  refine TS.seq ?_
                  have hq : (True) ∧ (True) := ⟨trivial, trivial⟩
                  refine TS.reg [] ?_ ?_
                  · apply prop_of ?_ hq
                    kernel_rfl
                  refine XS.then ?_
                  refine TS.ret ?_
                  refine XS.passR ?_
                  obtain rfl : (4 : Int) = r := Option.some.inj h
                  exact XS.fin [] ((True) ∧ (True)) (by kernel_rfl) ⟨trivial, trivial⟩
                · obtain ⟨y_6, hx25, h⟩ := bind_some' h
                  rcases bif_some h with ⟨c26, h⟩ | ⟨c27, h⟩
                  · have hq : (True) ∧ ((True) ∧ ((True) ∧ ((True) ∧ ((PureC Try.prog 78 [(.int .i64 r_Put_Bit)] (.bool y_3) []) ∧ ((True) ∧ (((True) ∧ (!y_3) = false) ∧ ((True) ∧ ((True) ∧ ((True) ∧ ((True) ∧ ((PureC Try.prog 78 [(.int .i64 r_Get_Bit)] (.bool y_4) []) ∧ ((True) ∧ ((True) ∧ (((True) ∧ (!y_4) = false) ∧ ((True) ∧ ((True) ∧ ((True) ∧ ((True) ∧ ((inR (IntKind.wrap .i64 (((r_Cells.length : Nat) : Int) - (1 : Int))) r_Cells.length) ∧ ((True) ∧ ((True) ∧ ((True) ∧ ((True) ∧ (((True) ∧ ((r_Cells.getD ((IntKind.wrap .i64 (((r_Cells.length : Nat) : Int) - (1 : Int))).toNat) ((0 : Int), ((0 : Int), false))).1 != (0 : Int)) = false) ∧ ((True) ∧ ((True) ∧ ((True) ∧ ((True) ∧ ((((True) ∧ ((True) ∧ (True))) ∧ PureC Try.prog 79 [(.int .i64 r_Put_At), (.pv (.int .i64 ((r_Cells.length : Nat) : Int)))] (.bool y_5) []) ∧ ((True) ∧ ((True) ∧ (((True) ∧ (!y_5) = false) ∧ ((True) ∧ ((True) ∧ ((True) ∧ ((True) ∧ ((((True) ∧ ((True) ∧ (True))) ∧ PureC Try.prog 79 [(.int .i64 r_Get_At), (.pv (.int .i64 ((r_Cells.length : Nat) : Int)))] (.bool y_6) []) ∧ ((True) ∧ ((True) ∧ (((True) ∧ (!y_6) = true) ∧ ((True) ∧ (True)))))))))))))))))))))))))))))))))))))))))) := ⟨trivial, ⟨trivial, ⟨trivial, ⟨trivial, ⟨F78_ok n r_Put_Bit y_3 hx13, ⟨trivial, ⟨⟨trivial, c15⟩, ⟨trivial, ⟨trivial, ⟨trivial, ⟨trivial, ⟨F78_ok n r_Get_Bit y_4 hx16, ⟨trivial, ⟨trivial, ⟨⟨trivial, c18⟩, ⟨trivial, ⟨trivial, ⟨trivial, ⟨trivial, ⟨inb_ok t19, ⟨trivial, ⟨trivial, ⟨trivial, ⟨trivial, ⟨⟨trivial, c21⟩, ⟨trivial, ⟨trivial, ⟨trivial, ⟨trivial, ⟨⟨⟨trivial, ⟨trivial, trivial⟩⟩, F79_ok n r_Put_At ((r_Cells.length : Nat) : Int) y_5 hx22⟩, ⟨trivial, ⟨trivial, ⟨⟨trivial, c24⟩, ⟨trivial, ⟨trivial, ⟨trivial, ⟨trivial, ⟨⟨⟨trivial, ⟨trivial, trivial⟩⟩, F79_ok n r_Get_At ((r_Cells.length : Nat) : Int) y_6 hx25⟩, ⟨trivial, ⟨trivial, ⟨⟨trivial, c26⟩, ⟨trivial, trivial⟩⟩⟩⟩⟩⟩⟩⟩⟩⟩⟩⟩⟩⟩⟩⟩⟩⟩⟩⟩⟩⟩⟩⟩⟩⟩⟩⟩⟩⟩⟩⟩⟩⟩⟩⟩⟩⟩⟩⟩⟩⟩
                    refine TS.reg [.none, .none, .none, .none, (.call (.bool y_3) []), .none, .dec false, .none, .none, .none, .none, (.call (.bool y_4) []), .none, .none, .dec false, .none, .none, .none, .none, .none, .none, .none, .none, .none, .dec false, .none, .none, .none, .none, (.call (.bool y_5) []), .none, .none, .dec false, .none, .none, .none, .none, (.call (.bool y_6) []), .none, .none, .dec true] ?_ ?_
                    · apply prop_of ?_ hq
                      kernel_rfl
                    refine XS.then ?_
                    refine TS.yes ?_ ?_
                    · kernel_rfl
                    refine TS.seq ?_
                    have hq : (True) ∧ (True) := ⟨trivial, trivial⟩
                    refine TS.reg [] ?_ ?_
                    · apply prop_of ?_ hq
                      kernel_rfl
                    refine XS.then ?_
                    refine TS.ret ?_
                    refine XS.passR ?_
                    obtain rfl : (4 : Int) = r := Option.some.inj h
                    exact XS.fin [] ((True) ∧ (True)) (by kernel_rfl) ⟨trivial, trivial⟩
                  · obtain ⟨y_7, hx28, h⟩ := bind_some' h
                    have hq : (True) ∧ ((True) ∧ ((True) ∧ ((True) ∧ ((PureC Try.prog 78 [(.int .i64 r_Put_Bit)] (.bool y_3) []) ∧ ((True) ∧ (((True) ∧ (!y_3) = false) ∧ ((True) ∧ ((True) ∧ ((True) ∧ ((True) ∧ ((PureC Try.prog 78 [(.int .i64 r_Get_Bit)] (.bool y_4) []) ∧ ((True) ∧ ((True) ∧ (((True) ∧ (!y_4) = false) ∧ ((True) ∧ ((True) ∧ ((True) ∧ ((True) ∧ ((inR (IntKind.wrap .i64 (((r_Cells.length : Nat) : Int) - (1 : Int))) r_Cells.length) ∧ ((True) ∧ ((True) ∧ ((True) ∧ ((True) ∧ (((True) ∧ ((r_Cells.getD ((IntKind.wrap .i64 (((r_Cells.length : Nat) : Int) - (1 : Int))).toNat) ((0 : Int), ((0 : Int), false))).1 != (0 : Int)) = false) ∧ ((True) ∧ ((True) ∧ ((True) ∧ ((True) ∧ ((((True) ∧ ((True) ∧ (True))) ∧ PureC Try.prog 79 [(.int .i64 r_Put_At), (.pv (.int .i64 ((r_Cells.length : Nat) : Int)))] (.bool y_5) []) ∧ ((True) ∧ ((True) ∧ (((True) ∧ (!y_5) = false) ∧ ((True) ∧ ((True) ∧ ((True) ∧ ((True) ∧ ((((True) ∧ ((True) ∧ (True))) ∧ PureC Try.prog 79 [(.int .i64 r_Get_At), (.pv (.int .i64 ((r_Cells.length : Nat) : Int)))] (.bool y_6) []) ∧ ((True) ∧ ((True) ∧ (((True) ∧ (!y_6) = false) ∧ ((True) ∧ ((True) ∧ ((True) ∧ ((((True) ∧ ((True) ∧ (True))) ∧ PureC Try.prog 79 [(.int .i64 r_Seen), (.pv (.int .i64 ((r_Cells.length : Nat) : Int)))] (.bool y_7) []) ∧ ((True) ∧ ((True) ∧ (True))))))))))))))))))))))))))))))))))))))))))))))) := ⟨trivial, ⟨trivial, ⟨trivial, ⟨trivial, ⟨F78_ok n r_Put_Bit y_3 hx13, ⟨trivial, ⟨⟨trivial, c15⟩, ⟨trivial, ⟨trivial, ⟨trivial, ⟨trivial, ⟨F78_ok n r_Get_Bit y_4 hx16, ⟨trivial, ⟨trivial, ⟨⟨trivial, c18⟩, ⟨trivial, ⟨trivial, ⟨trivial, ⟨trivial, ⟨inb_ok t19, ⟨trivial, ⟨trivial, ⟨trivial, ⟨trivial, ⟨⟨trivial, c21⟩, ⟨trivial, ⟨trivial, ⟨trivial, ⟨trivial, ⟨⟨⟨trivial, ⟨trivial, trivial⟩⟩, F79_ok n r_Put_At ((r_Cells.length : Nat) : Int) y_5 hx22⟩, ⟨trivial, ⟨trivial, ⟨⟨trivial, c24⟩, ⟨trivial, ⟨trivial, ⟨trivial, ⟨trivial, ⟨⟨⟨trivial, ⟨trivial, trivial⟩⟩, F79_ok n r_Get_At ((r_Cells.length : Nat) : Int) y_6 hx25⟩, ⟨trivial, ⟨trivial, ⟨⟨trivial, c27⟩, ⟨trivial, ⟨trivial, ⟨trivial, ⟨⟨⟨trivial, ⟨trivial, trivial⟩⟩, F79_ok n r_Seen ((r_Cells.length : Nat) : Int) y_7 hx28⟩, ⟨trivial, ⟨trivial, trivial⟩⟩⟩⟩⟩⟩⟩⟩⟩⟩⟩⟩⟩⟩⟩⟩⟩⟩⟩⟩⟩⟩⟩⟩⟩⟩⟩⟩⟩⟩⟩⟩⟩⟩⟩⟩⟩⟩⟩⟩⟩⟩⟩⟩⟩⟩⟩
                    refine TS.reg [.none, .none, .none, .none, (.call (.bool y_3) []), .none, .dec false, .none, .none, .none, .none, (.call (.bool y_4) []), .none, .none, .dec false, .none, .none, .none, .none, .none, .none, .none, .none, .none, .dec false, .none, .none, .none, .none, (.call (.bool y_5) []), .none, .none, .dec false, .none, .none, .none, .none, (.call (.bool y_6) []), .none, .none, .dec false, .none, .none, .none, (.call (.bool y_7) [])] ?_ ?_
                    · apply prop_of ?_ hq
                      kernel_rfl
                    refine XS.then ?_
                    rcases bif_some h with ⟨c29, h⟩ | ⟨c30, h⟩
                    · refine TS.cond (!y_7) ?_ (fun e => ?_) (fun e => by rw [c29] at e; cases e)
                      · kernel_rfl
                      refine TS.seq ?_
                      have hq : (True) ∧ (True) := ⟨trivial, trivial⟩
                      refine TS.reg [] ?_ ?_
                      · apply prop_of ?_ hq
                        kernel_rfl
                      refine XS.then ?_
                      refine TS.ret ?_
                      refine XS.passR ?_
                      obtain rfl : (4 : Int) = r := Option.some.inj h
                      exact XS.fin [] ((True) ∧ (True)) (by kernel_rfl) ⟨trivial, trivial⟩
                    · refine TS.cond (!y_7) ?_ (fun e => by rw [c30] at e; cases e) (fun e => ?_)
                      · kernel_rfl
                      refine TS.skip ?_
                      refine XS.then ?_
                      refine TS.seq ?_
                      have hq : (True) ∧ (True) := ⟨trivial, trivial⟩
                      refine TS.reg [] ?_ ?_
                      · apply prop_of ?_ hq
                        kernel_rfl
                      refine XS.then ?_
                      refine TS.ret ?_
                      obtain rfl : (0 : Int) = r := Option.some.inj h
                      exact XS.fin [] ((True) ∧ (True)) (by kernel_rfl) ⟨trivial, trivial⟩

/-! slices.Clone[[]plugtree/api.Cell,plugtree/api.Cell] -/
def F95 (n : Nat) (s : List (Int × Int × Bool)) : Option (List (Int × Int × Bool)) := (bif (decide (([] : List (Int × Int × Bool)).length + s.length ≤ 17179869184)) then (some (([] : List (Int × Int × Bool)) ++ s)) else none)
theorem F95_ok (n : Nat) (s : List (Int × Int × Bool)) (r : List (Int × Int × Bool)) (h : F95 n s = some r) : PureC Try.prog 95 [(.sl (.st (.pair (.int .u64) (.pair (.int .i64) .bool))) s)] (.row 0) [(.row 75 (.st (.pair (.int .u64) (.pair (.int .i64) .bool))) r)] := by
  refine PureC.mkS Try.func95 rfl rfl ?_
  intro w0 fz0 hfz
  replace h : (bif (decide (([] : List (Int × Int × Bool)).length + s.length ≤ 17179869184)) then (some (([] : List (Int × Int × Bool)) ++ s)) else none) = some r := h
  refine TS.seq ?_
  have hq : (True) ∧ (True) := ⟨trivial, trivial⟩
  refine TS.reg [] ?_ ?_
  · apply prop_of ?_ hq
    kernel_rfl
  refine XS.then ?_
  refine TS.seq ?_
  refine TS.seq ?_
  have hq : (True) ∧ (True) := ⟨trivial, trivial⟩
  refine TS.nilReg 1 [] (.st (.pair (.int .u64) (.pair (.int .i64) .bool))) s ?_ (by kernel_rfl) ?_
  · apply prop_of ?_ hq
    kernel_rfl
  · intro b2 hb4
    cases b2
    · clear hb4
      refine XS.then ?_
      refine TS.no ?_ ?_
      · kernel_rfl
      refine TS.skip ?_
      refine XS.then ?_
      refine TS.seq ?_
      obtain ⟨t1, h⟩ := test_some h
      have hq : (True) ∧ ((True) ∧ ((([] : List (Int × Int × Bool)).length + s.length ≤ 17179869184) ∧ ((True) ∧ (True)))) := ⟨trivial, ⟨trivial, ⟨of_decide_eq_true t1, ⟨trivial, trivial⟩⟩⟩⟩
      refine TS.reg [] ?_ ?_
      · apply prop_of ?_ hq
        kernel_rfl
      refine XS.then ?_
      refine TS.ret ?_
      obtain rfl : (([] : List (Int × Int × Bool)) ++ s) = r := Option.some.inj h
      exact XS.fin [1] ((True) ∧ (True)) (by kernel_rfl) ⟨trivial, trivial⟩
    · have e3 := hb4 rfl
      replace h : (some ([] : List (Int × Int × Bool))) = some r := by first | exact h | (rw [e3] at h ⊢; exact h) | simpa [e3] using h
      refine XS.then ?_
      refine TS.yes ?_ ?_
      · kernel_rfl
      refine TS.seq ?_
      have hq : (True) ∧ (True) := ⟨trivial, trivial⟩
      refine TS.reg [] ?_ ?_
      · apply prop_of ?_ hq
        kernel_rfl
      refine XS.then ?_
      refine TS.ret ?_
      refine XS.passR ?_
      obtain rfl : ([] : List (Int × Int × Bool)) = r := Option.some.inj h
      refine XS.wk (.row false 2 [] 75 (.st (.pair (.int .u64) (.pair (.int .i64) .bool)))) ?_
      exact XS.fin [0] ((True) ∧ (True)) (by kernel_rfl) ⟨trivial, trivial⟩

/-! plugtree/ring.copied -/
def F77 (n : Nat) (r_Cells : List (Int × Int × Bool)) (r_Put_At : Int) (r_Put_Bit : Int) (r_Get_At : Int) (r_Get_Bit : Int) (r_Seen : Int) : Option (Int × Int × Int × Int × Int × (List (Int × Int × Bool))) := ((F95 n r_Cells).bind fun y_7 => (some (r_Put_At, r_Put_Bit, r_Get_At, r_Get_Bit, r_Seen, y_7)))
theorem F77_ok (n : Nat) (r_Cells : List (Int × Int × Bool)) (r_Put_At : Int) (r_Put_Bit : Int) (r_Get_At : Int) (r_Get_Bit : Int) (r_Seen : Int) (r : Int × Int × Int × Int × Int × (List (Int × Int × Bool))) (h : F77 n r_Cells r_Put_At r_Put_Bit r_Get_At r_Get_Bit r_Seen = some r) : PureC Try.prog 77 [(.st (.cons (.sl (.st (.pair (.int .u64) (.pair (.int .i64) .bool))) r_Cells) (.cons (.st (.cons (.int .i64 r_Put_At) (.int .i64 r_Put_Bit))) (.cons (.st (.cons (.int .i64 r_Get_At) (.int .i64 r_Get_Bit))) (.int .i64 r_Seen)))))] (.st (.cons (.row 0) (.cons (.st (.cons (.int .i64 r.1) (.int .i64 r.2.1))) (.cons (.st (.cons (.int .i64 r.2.2.1) (.int .i64 r.2.2.2.1))) (.int .i64 r.2.2.2.2.1))))) [(.row 75 (.st (.pair (.int .u64) (.pair (.int .i64) .bool))) r.2.2.2.2.2)] := by
  refine PureC.mkS Try.func77 rfl rfl ?_
  intro w0 fz0 hfz
  replace h : ((F95 n r_Cells).bind fun y_7 => (some (r_Put_At, r_Put_Bit, r_Get_At, r_Get_Bit, r_Seen, y_7))) = some r := h
  refine TS.seq ?_
  have hq : (True) ∧ ((True) ∧ (True)) := ⟨trivial, ⟨trivial, trivial⟩⟩
  refine TS.reg [] ?_ ?_
  · apply prop_of ?_ hq
    kernel_rfl
  refine XS.then ?_
  refine TS.seq ?_
  obtain ⟨y_7, hx1, h⟩ := bind_some' h
  have hq : (True) ∧ ((True) ∧ ((PureC Try.prog 95 [(.sl (.st (.pair (.int .u64) (.pair (.int .i64) .bool))) r_Cells)] (.row 0) [(.row 75 (.st (.pair (.int .u64) (.pair (.int .i64) .bool))) y_7)]) ∧ ((True) ∧ ((True) ∧ (True))))) := ⟨trivial, ⟨trivial, ⟨F95_ok n r_Cells y_7 hx1, ⟨trivial, ⟨trivial, trivial⟩⟩⟩⟩⟩
  refine TS.reg [.none, .none, (.call (.row 0) [(.row 75 (.st (.pair (.int .u64) (.pair (.int .i64) .bool))) y_7)])] ?_ ?_
  · apply prop_of ?_ hq
    kernel_rfl
  refine XS.then ?_
  refine TS.seq ?_
  have hq : (True) ∧ ((True) ∧ (True)) := ⟨trivial, ⟨trivial, trivial⟩⟩
  refine TS.reg [] ?_ ?_
  · apply prop_of ?_ hq
    kernel_rfl
  refine XS.then ?_
  refine TS.ret ?_
  obtain rfl : (r_Put_At, r_Put_Bit, r_Get_At, r_Get_Bit, r_Seen, y_7) = r := Option.some.inj h
  exact XS.fin [2] ((True) ∧ (True)) (by kernel_rfl) ⟨trivial, trivial⟩

/-! plugtree/ring.advance -/
def F76 (n : Nat) (m_At : Int) (m_Bit : Int) (cells : Int) : Option (Int × Int) := (bif ((IntKind.wrap .i64 (m_At + (1 : Int))) == (IntKind.wrap .i64 (cells - (1 : Int)))) then (some ((0 : Int), (IntKind.wrap .i64 ((1 : Int) - m_Bit)))) else (some ((IntKind.wrap .i64 (m_At + (1 : Int))), m_Bit)))
theorem F76_ok (n : Nat) (m_At : Int) (m_Bit : Int) (cells : Int) (r : Int × Int) (h : F76 n m_At m_Bit cells = some r) : PureC Try.prog 76 [(.st (.cons (.int .i64 m_At) (.int .i64 m_Bit))), (.int .i64 cells)] (.st (.cons (.int .i64 r.1) (.int .i64 r.2))) [] := by
  refine PureC.mkS Try.func76 rfl rfl ?_
  intro w0 fz0 hfz
  replace h : (bif ((IntKind.wrap .i64 (m_At + (1 : Int))) == (IntKind.wrap .i64 (cells - (1 : Int)))) then (some ((0 : Int), (IntKind.wrap .i64 ((1 : Int) - m_Bit)))) else (some ((IntKind.wrap .i64 (m_At + (1 : Int))), m_Bit))) = some r := h
  refine TS.seq ?_
  have hq : (True) ∧ ((True) ∧ (True)) := ⟨trivial, ⟨trivial, trivial⟩⟩
  refine TS.reg [] ?_ ?_
  · apply prop_of ?_ hq
    kernel_rfl
  refine XS.then ?_
  refine TS.seq ?_
  refine TS.seq ?_
  have hq : (True) ∧ ((True) ∧ ((True) ∧ ((True) ∧ ((True) ∧ (True))))) := ⟨trivial, ⟨trivial, ⟨trivial, ⟨trivial, ⟨trivial, trivial⟩⟩⟩⟩⟩
  refine TS.reg [] ?_ ?_
  · apply prop_of ?_ hq
    kernel_rfl
  refine XS.then ?_
  refine TS.seq ?_
  have hq : (True) ∧ ((True) ∧ ((True) ∧ ((True) ∧ ((True) ∧ (True))))) := ⟨trivial, ⟨trivial, ⟨trivial, ⟨trivial, ⟨trivial, trivial⟩⟩⟩⟩⟩
  refine TS.reg [] ?_ ?_
  · apply prop_of ?_ hq
    kernel_rfl
  refine XS.then ?_
  rcases bif_some h with ⟨c1, h⟩ | ⟨c2, h⟩
  · refine TS.cond ((IntKind.wrap .i64 (m_At + (1 : Int))) == (IntKind.wrap .i64 (cells - (1 : Int)))) ?_ (fun e => ?_) (fun e => by rw [c1] at e; cases e)
    · kernel_rfl
    refine TS.seq ?_
    have hq : (True) ∧ ((True) ∧ ((True) ∧ (((True) ∧ ((True) ∧ (True))) ∧ ((True) ∧ (True))))) := ⟨trivial, ⟨trivial, ⟨trivial, ⟨⟨trivial, ⟨trivial, trivial⟩⟩, ⟨trivial, trivial⟩⟩⟩⟩⟩
    refine TS.reg [] ?_ ?_
    · apply prop_of ?_ hq
      kernel_rfl
    refine XS.then ?_
    refine TS.ret ?_
    refine XS.passR ?_
    obtain rfl : ((0 : Int), (IntKind.wrap .i64 ((1 : Int) - m_Bit))) = r := Option.some.inj h
    exact XS.fin [] ((True) ∧ (True)) (by kernel_rfl) ⟨trivial, trivial⟩
  · refine TS.cond ((IntKind.wrap .i64 (m_At + (1 : Int))) == (IntKind.wrap .i64 (cells - (1 : Int)))) ?_ (fun e => by rw [c2] at e; cases e) (fun e => ?_)
    · kernel_rfl
    refine TS.skip ?_
    refine XS.then ?_
    refine TS.seq ?_
    have hq : (True) ∧ ((True) ∧ (True)) := ⟨trivial, ⟨trivial, trivial⟩⟩
    refine TS.reg [] ?_ ?_
    · apply prop_of ?_ hq
      kernel_rfl
    refine XS.then ?_
    refine TS.ret ?_
    obtain rfl : ((IntKind.wrap .i64 (m_At + (1 : Int))), m_Bit) = r := Option.some.inj h
    exact XS.fin [] ((True) ∧ (True)) (by kernel_rfl) ⟨trivial, trivial⟩

/-! plugtree/ring.Get -/
def F39 (n : Nat) (r_Cells : List (Int × Int × Bool)) (r_Put_At : Int) (r_Put_Bit : Int) (r_Get_At : Int) (r_Get_Bit : Int) (r_Seen : Int) : Option (Int × Int × Int × Int × Int × Int × Bool × Int × (List (Int × Int × Bool))) := ((F36 n r_Cells r_Put_At r_Put_Bit r_Get_At r_Get_Bit r_Seen).bind fun y_10 => (bif (y_10 != (0 : Int)) then (some ((0 : Int), (0 : Int), (0 : Int), (0 : Int), (0 : Int), (0 : Int), false, y_10, ([] : List (Int × Int × Bool)))) else ((F77 n r_Cells r_Put_At r_Put_Bit r_Get_At r_Get_Bit r_Seen).bind fun y_11 => (bif inb y_11.2.2.1 y_11.2.2.2.2.2.length then (bif ((y_11.2.2.2.2.2.getD y_11.2.2.1.toNat ((0 : Int), ((0 : Int), false))).2.1 != y_11.2.2.2.1) then (some (y_11.1, y_11.2.1, y_11.2.2.1, y_11.2.2.2.1, y_11.2.2.2.2.1, (0 : Int), false, (0 : Int), y_11.2.2.2.2.2)) else ((F76 n y_11.2.2.1 y_11.2.2.2.1 ((y_11.2.2.2.2.2.length : Nat) : Int)).bind fun y_12 => (some (y_11.1, y_11.2.1, y_12.1, y_12.2, y_11.2.2.2.2.1, (y_11.2.2.2.2.2.getD y_11.2.2.1.toNat ((0 : Int), ((0 : Int), false))).1, true, (0 : Int), y_11.2.2.2.2.2)))) else none))))
theorem F39_ok (n : Nat) (r_Cells : List (Int × Int × Bool)) (r_Put_At : Int) (r_Put_Bit : Int) (r_Get_At : Int) (r_Get_Bit : Int) (r_Seen : Int) (r : Int × Int × Int × Int × Int × Int × Bool × Int × (List (Int × Int × Bool))) (h : F39 n r_Cells r_Put_At r_Put_Bit r_Get_At r_Get_Bit r_Seen = some r) : PureC Try.prog 39 [(.st (.cons (.sl (.st (.pair (.int .u64) (.pair (.int .i64) .bool))) r_Cells) (.cons (.st (.cons (.int .i64 r_Put_At) (.int .i64 r_Put_Bit))) (.cons (.st (.cons (.int .i64 r_Get_At) (.int .i64 r_Get_Bit))) (.int .i64 r_Seen)))))] (.tup (.cons (.st (.cons (.row 0) (.cons (.st (.cons (.int .i64 r.1) (.int .i64 r.2.1))) (.cons (.st (.cons (.int .i64 r.2.2.1) (.int .i64 r.2.2.2.1))) (.int .i64 r.2.2.2.2.1))))) (.cons (.int .u64 r.2.2.2.2.2.1) (.cons (.bool r.2.2.2.2.2.2.1) (.cons (.int .i64 r.2.2.2.2.2.2.2.1) .nil))))) [(.row 75 (.st (.pair (.int .u64) (.pair (.int .i64) .bool))) r.2.2.2.2.2.2.2.2)] := by
  refine PureC.mkS Try.func39 rfl rfl ?_
  intro w0 fz0 hfz
  replace h : ((F36 n r_Cells r_Put_At r_Put_Bit r_Get_At r_Get_Bit r_Seen).bind fun y_10 => (bif (y_10 != (0 : Int)) then (some ((0 : Int), (0 : Int), (0 : Int), (0 : Int), (0 : Int), (0 : Int), false, y_10, ([] : List (Int × Int × Bool)))) else ((F77 n r_Cells r_Put_At r_Put_Bit r_Get_At r_Get_Bit r_Seen).bind fun y_11 => (bif inb y_11.2.2.1 y_11.2.2.2.2.2.length then (bif ((y_11.2.2.2.2.2.getD y_11.2.2.1.toNat ((0 : Int), ((0 : Int), false))).2.1 != y_11.2.2.2.1) then (some (y_11.1, y_11.2.1, y_11.2.2.1, y_11.2.2.2.1, y_11.2.2.2.2.1, (0 : Int), false, (0 : Int), y_11.2.2.2.2.2)) else ((F76 n y_11.2.2.1 y_11.2.2.2.1 ((y_11.2.2.2.2.2.length : Nat) : Int)).bind fun y_12 => (some (y_11.1, y_11.2.1, y_12.1, y_12.2, y_11.2.2.2.2.1, (y_11.2.2.2.2.2.getD y_11.2.2.1.toNat ((0 : Int), ((0 : Int), false))).1, true, (0 : Int), y_11.2.2.2.2.2)))) else none)))) = some r := h
  refine TS.seq ?_
  have hq : (True) ∧ ((True) ∧ ((True) ∧ ((True) ∧ ((True) ∧ (True))))) := ⟨trivial, ⟨trivial, ⟨trivial, ⟨trivial, ⟨trivial, trivial⟩⟩⟩⟩⟩
  refine TS.reg [] ?_ ?_
  · apply prop_of ?_ hq
    kernel_rfl
  refine XS.then ?_
  refine TS.seq ?_
  refine TS.seq ?_
  obtain ⟨y_10, hx1, h⟩ := bind_some' h
  have hq : (True) ∧ ((PureC Try.prog 36 [(.st (.cons (.sl (.st (.pair (.int .u64) (.pair (.int .i64) .bool))) r_Cells) (.cons (.st (.cons (.int .i64 r_Put_At) (.int .i64 r_Put_Bit))) (.cons (.st (.cons (.int .i64 r_Get_At) (.int .i64 r_Get_Bit))) (.int .i64 r_Seen)))))] (.int .i64 y_10) []) ∧ ((True) ∧ (True))) := ⟨trivial, ⟨F36_ok n r_Cells r_Put_At r_Put_Bit r_Get_At r_Get_Bit r_Seen y_10 hx1, ⟨trivial, trivial⟩⟩⟩
  refine TS.reg [.none, (.call (.int .i64 y_10) [])] ?_ ?_
  · apply prop_of ?_ hq
    kernel_rfl
  refine XS.then ?_
  refine TS.seq ?_
  have hq : (True) ∧ ((True) ∧ (True)) := ⟨trivial, ⟨trivial, trivial⟩⟩
  refine TS.reg [] ?_ ?_
  · apply prop_of ?_ hq
    kernel_rfl
  refine XS.then ?_
  rcases bif_some h with ⟨c2, h⟩ | ⟨c3, h⟩
  · refine TS.cond (y_10 != (0 : Int)) ?_ (fun e => ?_) (fun e => by rw [c2] at e; cases e)
    · kernel_rfl
    refine TS.seq ?_
    have hq : (True) ∧ ((True) ∧ ((True) ∧ ((True) ∧ ((True) ∧ ((True) ∧ (True)))))) := ⟨trivial, ⟨trivial, ⟨trivial, ⟨trivial, ⟨trivial, ⟨trivial, trivial⟩⟩⟩⟩⟩⟩
    refine TS.reg [] ?_ ?_
    · apply prop_of ?_ hq
      kernel_rfl
    refine XS.then ?_
    refine TS.ret ?_
    refine XS.passR ?_
    obtain rfl : ((0 : Int), (0 : Int), (0 : Int), (0 : Int), (0 : Int), (0 : Int), false, y_10, ([] : List (Int × Int × Bool))) = r := Option.some.inj h
    refine XS.wk (.row true 1 [false] 75 (.st (.pair (.int .u64) (.pair (.int .i64) .bool)))) ?_
    exact XS.fin [2] ((True) ∧ ((True) ∧ ((True) ∧ ((True) ∧ (True))))) (by kernel_rfl) ⟨trivial, ⟨trivial, ⟨trivial, ⟨trivial, trivial⟩⟩⟩⟩
  · refine TS.cond (y_10 != (0 : Int)) ?_ (fun e => by rw [c3] at e; cases e) (fun e => ?_)
    · kernel_rfl
    refine TS.skip ?_
    refine XS.then ?_
    refine TS.seq ?_
    obtain ⟨y_11, hx4, h⟩ := bind_some' h
    have hq : (True) ∧ ((PureC Try.prog 77 [(.st (.cons (.sl (.st (.pair (.int .u64) (.pair (.int .i64) .bool))) r_Cells) (.cons (.st (.cons (.int .i64 r_Put_At) (.int .i64 r_Put_Bit))) (.cons (.st (.cons (.int .i64 r_Get_At) (.int .i64 r_Get_Bit))) (.int .i64 r_Seen)))))] (.st (.cons (.row 0) (.cons (.st (.cons (.int .i64 y_11.1) (.int .i64 y_11.2.1))) (.cons (.st (.cons (.int .i64 y_11.2.2.1) (.int .i64 y_11.2.2.2.1))) (.int .i64 y_11.2.2.2.2.1))))) [(.row 75 (.st (.pair (.int .u64) (.pair (.int .i64) .bool))) y_11.2.2.2.2.2)]) ∧ ((True) ∧ (True))) := ⟨trivial, ⟨F77_ok n r_Cells r_Put_At r_Put_Bit r_Get_At r_Get_Bit r_Seen y_11 hx4, ⟨trivial, trivial⟩⟩⟩
    refine TS.reg [.none, (.call (.st (.cons (.row 0) (.cons (.st (.cons (.int .i64 y_11.1) (.int .i64 y_11.2.1))) (.cons (.st (.cons (.int .i64 y_11.2.2.1) (.int .i64 y_11.2.2.2.1))) (.int .i64 y_11.2.2.2.2.1))))) [(.row 75 (.st (.pair (.int .u64) (.pair (.int .i64) .bool))) y_11.2.2.2.2.2)])] ?_ ?_
    · apply prop_of ?_ hq
      kernel_rfl
    refine XS.then ?_
    refine TS.seq ?_
    obtain ⟨t5, h⟩ := test_some h
    have hq : (True) ∧ ((True) ∧ ((True) ∧ ((True) ∧ ((True) ∧ ((inR y_11.2.2.1 y_11.2.2.2.2.2.length) ∧ ((y_11.2.2.1.toNat < y_11.2.2.2.2.2.length ∧ (True)) ∧ ((True) ∧ ((True) ∧ (True))))))))) := ⟨trivial, ⟨trivial, ⟨trivial, ⟨trivial, ⟨trivial, ⟨inb_ok t5, ⟨⟨inR_lt (inb_ok t5), trivial⟩, ⟨trivial, ⟨trivial, trivial⟩⟩⟩⟩⟩⟩⟩⟩⟩
    refine TS.reg [] ?_ ?_
    · apply prop_of ?_ hq
      kernel_rfl
    refine XS.then ?_
    refine TS.seq ?_
    refine TS.seq ?_
    have hq : (True) ∧ ((True) ∧ ((True) ∧ ((True) ∧ ((True) ∧ ((True) ∧ (True)))))) := ⟨trivial, ⟨trivial, ⟨trivial, ⟨trivial, ⟨trivial, ⟨trivial, trivial⟩⟩⟩⟩⟩⟩
    refine TS.reg [] ?_ ?_
    · apply prop_of ?_ hq
      kernel_rfl
    refine XS.then ?_
    rcases bif_some h with ⟨c6, h⟩ | ⟨c7, h⟩
    · refine TS.cond ((y_11.2.2.2.2.2.getD y_11.2.2.1.toNat ((0 : Int), ((0 : Int), false))).2.1 != y_11.2.2.2.1) ?_ (fun e => ?_) (fun e => by rw [c6] at e; cases e)
      · kernel_rfl
      refine TS.seq ?_
      have hq : (True) ∧ ((True) ∧ ((True) ∧ ((True) ∧ ((True) ∧ (True))))) := ⟨trivial, ⟨trivial, ⟨trivial, ⟨trivial, ⟨trivial, trivial⟩⟩⟩⟩⟩
      refine TS.reg [] ?_ ?_
      · apply prop_of ?_ hq
        kernel_rfl
      refine XS.then ?_
      refine TS.ret ?_
      refine XS.passR ?_
      obtain rfl : (y_11.1, y_11.2.1, y_11.2.2.1, y_11.2.2.2.1, y_11.2.2.2.2.1, (0 : Int), false, (0 : Int), y_11.2.2.2.2.2) = r := Option.some.inj h
      exact XS.fin [2] ((True) ∧ ((True) ∧ ((True) ∧ ((True) ∧ (True))))) (by kernel_rfl) ⟨trivial, ⟨trivial, ⟨trivial, ⟨trivial, trivial⟩⟩⟩⟩
    · refine TS.cond ((y_11.2.2.2.2.2.getD y_11.2.2.1.toNat ((0 : Int), ((0 : Int), false))).2.1 != y_11.2.2.2.1) ?_ (fun e => by rw [c7] at e; cases e) (fun e => ?_)
      · kernel_rfl
      refine TS.skip ?_
      refine XS.then ?_
      refine TS.seq ?_
      obtain ⟨y_12, hx8, h⟩ := bind_some' h
      have hq : (True) ∧ ((True) ∧ ((True) ∧ ((True) ∧ ((True) ∧ ((PureC Try.prog 76 [(.st (.cons (.int .i64 y_11.2.2.1) (.int .i64 y_11.2.2.2.1))), (.int .i64 ((y_11.2.2.2.2.2.length : Nat) : Int))] (.st (.cons (.int .i64 y_12.1) (.int .i64 y_12.2))) []) ∧ ((True) ∧ ((True) ∧ (True)))))))) := ⟨trivial, ⟨trivial, ⟨trivial, ⟨trivial, ⟨trivial, ⟨F76_ok n y_11.2.2.1 y_11.2.2.2.1 ((y_11.2.2.2.2.2.length : Nat) : Int) y_12 hx8, ⟨trivial, ⟨trivial, trivial⟩⟩⟩⟩⟩⟩⟩⟩
      refine TS.reg [.none, .none, .none, .none, .none, (.call (.st (.cons (.int .i64 y_12.1) (.int .i64 y_12.2))) [])] ?_ ?_
      · apply prop_of ?_ hq
        kernel_rfl
      refine XS.then ?_
      refine TS.seq ?_
      have hq : ((True) ∧ ((True) ∧ ((True) ∧ ((True) ∧ (True))))) ∧ ((True) ∧ ((True) ∧ ((True) ∧ (True)))) := ⟨⟨trivial, ⟨trivial, ⟨trivial, ⟨trivial, trivial⟩⟩⟩⟩, ⟨trivial, ⟨trivial, ⟨trivial, trivial⟩⟩⟩⟩
      refine TS.draw 4 [(3, 1)] [] (by kernel_rfl) ?_ ?_
      · apply prop_of ?_ hq
        kernel_rfl
      refine XS.then ?_
      refine TS.ret ?_
      obtain rfl : (y_11.1, y_11.2.1, y_12.1, y_12.2, y_11.2.2.2.2.1, (y_11.2.2.2.2.2.getD y_11.2.2.1.toNat ((0 : Int), ((0 : Int), false))).1, true, (0 : Int), y_11.2.2.2.2.2) = r := Option.some.inj h
      exact XS.fin [2] ((True) ∧ ((True) ∧ ((True) ∧ ((True) ∧ (True))))) (by kernel_rfl) ⟨trivial, ⟨trivial, ⟨trivial, ⟨trivial, trivial⟩⟩⟩⟩

/-! plugtree/ring.Learn -/
def F40 (n : Nat) (r_Cells : List (Int × Int × Bool)) (r_Put_At : Int) (r_Put_Bit : Int) (r_Get_At : Int) (r_Get_Bit : Int) (r_Seen : Int) : Option (Int × Int × Int × Int × Int × Int × (List (Int × Int × Bool))) := ((F36 n r_Cells r_Put_At r_Put_Bit r_Get_At r_Get_Bit r_Seen).bind fun y_8 => (bif (y_8 != (0 : Int)) then (some ((0 : Int), (0 : Int), (0 : Int), (0 : Int), (0 : Int), y_8, ([] : List (Int × Int × Bool)))) else ((F77 n r_Cells r_Put_At r_Put_Bit r_Get_At r_Get_Bit r_Seen).bind fun y_9 => (some (y_9.1, y_9.2.1, y_9.2.2.1, y_9.2.2.2.1, y_9.2.2.1, (0 : Int), y_9.2.2.2.2.2)))))
theorem F40_ok (n : Nat) (r_Cells : List (Int × Int × Bool)) (r_Put_At : Int) (r_Put_Bit : Int) (r_Get_At : Int) (r_Get_Bit : Int) (r_Seen : Int) (r : Int × Int × Int × Int × Int × Int × (List (Int × Int × Bool))) (h : F40 n r_Cells r_Put_At r_Put_Bit r_Get_At r_Get_Bit r_Seen = some r) : PureC Try.prog 40 [(.st (.cons (.sl (.st (.pair (.int .u64) (.pair (.int .i64) .bool))) r_Cells) (.cons (.st (.cons (.int .i64 r_Put_At) (.int .i64 r_Put_Bit))) (.cons (.st (.cons (.int .i64 r_Get_At) (.int .i64 r_Get_Bit))) (.int .i64 r_Seen)))))] (.tup (.cons (.st (.cons (.row 0) (.cons (.st (.cons (.int .i64 r.1) (.int .i64 r.2.1))) (.cons (.st (.cons (.int .i64 r.2.2.1) (.int .i64 r.2.2.2.1))) (.int .i64 r.2.2.2.2.1))))) (.cons (.int .i64 r.2.2.2.2.2.1) .nil))) [(.row 75 (.st (.pair (.int .u64) (.pair (.int .i64) .bool))) r.2.2.2.2.2.2)] := by
  refine PureC.mkS Try.func40 rfl rfl ?_
  intro w0 fz0 hfz
  replace h : ((F36 n r_Cells r_Put_At r_Put_Bit r_Get_At r_Get_Bit r_Seen).bind fun y_8 => (bif (y_8 != (0 : Int)) then (some ((0 : Int), (0 : Int), (0 : Int), (0 : Int), (0 : Int), y_8, ([] : List (Int × Int × Bool)))) else ((F77 n r_Cells r_Put_At r_Put_Bit r_Get_At r_Get_Bit r_Seen).bind fun y_9 => (some (y_9.1, y_9.2.1, y_9.2.2.1, y_9.2.2.2.1, y_9.2.2.1, (0 : Int), y_9.2.2.2.2.2))))) = some r := h
  refine TS.seq ?_
  have hq : (True) ∧ ((True) ∧ ((True) ∧ (True))) := ⟨trivial, ⟨trivial, ⟨trivial, trivial⟩⟩⟩
  refine TS.reg [] ?_ ?_
  · apply prop_of ?_ hq
    kernel_rfl
  refine XS.then ?_
  refine TS.seq ?_
  refine TS.seq ?_
  obtain ⟨y_8, hx1, h⟩ := bind_some' h
  have hq : (True) ∧ ((PureC Try.prog 36 [(.st (.cons (.sl (.st (.pair (.int .u64) (.pair (.int .i64) .bool))) r_Cells) (.cons (.st (.cons (.int .i64 r_Put_At) (.int .i64 r_Put_Bit))) (.cons (.st (.cons (.int .i64 r_Get_At) (.int .i64 r_Get_Bit))) (.int .i64 r_Seen)))))] (.int .i64 y_8) []) ∧ ((True) ∧ (True))) := ⟨trivial, ⟨F36_ok n r_Cells r_Put_At r_Put_Bit r_Get_At r_Get_Bit r_Seen y_8 hx1, ⟨trivial, trivial⟩⟩⟩
  refine TS.reg [.none, (.call (.int .i64 y_8) [])] ?_ ?_
  · apply prop_of ?_ hq
    kernel_rfl
  refine XS.then ?_
  refine TS.seq ?_
  have hq : (True) ∧ ((True) ∧ (True)) := ⟨trivial, ⟨trivial, trivial⟩⟩
  refine TS.reg [] ?_ ?_
  · apply prop_of ?_ hq
    kernel_rfl
  refine XS.then ?_
  rcases bif_some h with ⟨c2, h⟩ | ⟨c3, h⟩
  · refine TS.cond (y_8 != (0 : Int)) ?_ (fun e => ?_) (fun e => by rw [c2] at e; cases e)
    · kernel_rfl
    refine TS.seq ?_
    have hq : (True) ∧ ((True) ∧ ((True) ∧ ((True) ∧ (True)))) := ⟨trivial, ⟨trivial, ⟨trivial, ⟨trivial, trivial⟩⟩⟩⟩
    refine TS.reg [] ?_ ?_
    · apply prop_of ?_ hq
      kernel_rfl
    refine XS.then ?_
    refine TS.ret ?_
    refine XS.passR ?_
    obtain rfl : ((0 : Int), (0 : Int), (0 : Int), (0 : Int), (0 : Int), y_8, ([] : List (Int × Int × Bool))) = r := Option.some.inj h
    refine XS.wk (.row true 1 [false] 75 (.st (.pair (.int .u64) (.pair (.int .i64) .bool)))) ?_
    exact XS.fin [2] ((True) ∧ ((True) ∧ (True))) (by kernel_rfl) ⟨trivial, ⟨trivial, trivial⟩⟩
  · refine TS.cond (y_8 != (0 : Int)) ?_ (fun e => by rw [c3] at e; cases e) (fun e => ?_)
    · kernel_rfl
    refine TS.skip ?_
    refine XS.then ?_
    refine TS.seq ?_
    obtain ⟨y_9, hx4, h⟩ := bind_some' h
    have hq : (True) ∧ ((PureC Try.prog 77 [(.st (.cons (.sl (.st (.pair (.int .u64) (.pair (.int .i64) .bool))) r_Cells) (.cons (.st (.cons (.int .i64 r_Put_At) (.int .i64 r_Put_Bit))) (.cons (.st (.cons (.int .i64 r_Get_At) (.int .i64 r_Get_Bit))) (.int .i64 r_Seen)))))] (.st (.cons (.row 0) (.cons (.st (.cons (.int .i64 y_9.1) (.int .i64 y_9.2.1))) (.cons (.st (.cons (.int .i64 y_9.2.2.1) (.int .i64 y_9.2.2.2.1))) (.int .i64 y_9.2.2.2.2.1))))) [(.row 75 (.st (.pair (.int .u64) (.pair (.int .i64) .bool))) y_9.2.2.2.2.2)]) ∧ ((True) ∧ (True))) := ⟨trivial, ⟨F77_ok n r_Cells r_Put_At r_Put_Bit r_Get_At r_Get_Bit r_Seen y_9 hx4, ⟨trivial, trivial⟩⟩⟩
    refine TS.reg [.none, (.call (.st (.cons (.row 0) (.cons (.st (.cons (.int .i64 y_9.1) (.int .i64 y_9.2.1))) (.cons (.st (.cons (.int .i64 y_9.2.2.1) (.int .i64 y_9.2.2.2.1))) (.int .i64 y_9.2.2.2.2.1))))) [(.row 75 (.st (.pair (.int .u64) (.pair (.int .i64) .bool))) y_9.2.2.2.2.2)])] ?_ ?_
    · apply prop_of ?_ hq
      kernel_rfl
    refine XS.then ?_
    refine TS.seq ?_
    have hq : (True) ∧ ((True) ∧ ((True) ∧ ((True) ∧ ((True) ∧ (True))))) := ⟨trivial, ⟨trivial, ⟨trivial, ⟨trivial, ⟨trivial, trivial⟩⟩⟩⟩⟩
    refine TS.reg [] ?_ ?_
    · apply prop_of ?_ hq
      kernel_rfl
    refine XS.then ?_
    refine TS.seq ?_
    have hq : (True) ∧ ((True) ∧ ((True) ∧ (True))) := ⟨trivial, ⟨trivial, ⟨trivial, trivial⟩⟩⟩
    refine TS.reg [] ?_ ?_
    · apply prop_of ?_ hq
      kernel_rfl
    refine XS.then ?_
    refine TS.ret ?_
    obtain rfl : (y_9.1, y_9.2.1, y_9.2.2.1, y_9.2.2.2.1, y_9.2.2.1, (0 : Int), y_9.2.2.2.2.2) = r := Option.some.inj h
    exact XS.fin [2] ((True) ∧ ((True) ∧ (True))) (by kernel_rfl) ⟨trivial, ⟨trivial, trivial⟩⟩

/-! plugtree/plugref.Between -/
def F19 (n : Nat) (vn : Int) (low : Int) (high : Int) : Option Bool := (bif (decide (low ≤ vn)) then (some (decide (vn ≤ high))) else (some false))
theorem F19_ok (n : Nat) (vn : Int) (low : Int) (high : Int) (r : Bool) (h : F19 n vn low high = some r) : PureC Try.prog 19 [(.int .i64 vn), (.int .i64 low), (.int .i64 high)] (.bool r) [] := by
  refine PureC.mkS Try.func19 rfl rfl ?_
  intro w0 fz0 hfz
  replace h : (bif (decide (low ≤ vn)) then (some (decide (vn ≤ high))) else (some false)) = some r := h
  refine TS.seq ?_
  have hq : (True) ∧ (True) := ⟨trivial, trivial⟩
  refine TS.reg [] ?_ ?_
  · apply prop_of ?_ hq
    kernel_rfl
  refine XS.then ?_
  refine TS.seq ?_
  rcases bif_some h with ⟨c1, h⟩ | ⟨c2, h⟩
  · have hq : (True) ∧ ((True) ∧ ((True) ∧ (((True) ∧ (decide (low ≤ vn)) = true) ∧ ((True) ∧ ((True) ∧ ((True) ∧ ((True) ∧ ((True) ∧ (True))))))))) := ⟨trivial, ⟨trivial, ⟨trivial, ⟨⟨trivial, c1⟩, ⟨trivial, ⟨trivial, ⟨trivial, ⟨trivial, ⟨trivial, trivial⟩⟩⟩⟩⟩⟩⟩⟩⟩
    refine TS.reg [.none, .none, .none, .dec true] ?_ ?_
    · apply prop_of ?_ hq
      kernel_rfl
    refine XS.then ?_
    refine TS.ret ?_
    obtain rfl : (decide (vn ≤ high)) = r := Option.some.inj h
    exact XS.fin [] ((True) ∧ (True)) (by kernel_rfl) ⟨trivial, trivial⟩
  · have hq : (True) ∧ ((True) ∧ ((True) ∧ (((True) ∧ (decide (low ≤ vn)) = false) ∧ ((True) ∧ ((True) ∧ (True)))))) := ⟨trivial, ⟨trivial, ⟨trivial, ⟨⟨trivial, c2⟩, ⟨trivial, ⟨trivial, trivial⟩⟩⟩⟩⟩⟩
    refine TS.reg [.none, .none, .none, .dec false] ?_ ?_
    · apply prop_of ?_ hq
      kernel_rfl
    refine XS.then ?_
    refine TS.ret ?_
    obtain rfl : false = r := Option.some.inj h
    exact XS.fin [] ((True) ∧ (True)) (by kernel_rfl) ⟨trivial, trivial⟩

/-! plugtree/plugref.Ring -/
def F37_l4 (n : Nat) (r_Cells : List (Int × Int × Bool)) (k37_4 : (Bool × Int) → Option Int) : (Bool × Int) → Option Int
  | (fine_2, x) => (bif (decide (x < ((r_Cells.length : Nat) : Int))) then (bif inb x r_Cells.length then (bif fine_2 then ((F19 n ((r_Cells.getD x.toNat ((0 : Int), ((0 : Int), false))).2.1) (0 : Int) (1 : Int)).bind fun y_3 => (bif y_3 then (bif ((r_Cells.getD x.toNat ((0 : Int), ((0 : Int), false))).2.2 == ((IntKind.wrap .i64 (x + (1 : Int))) == ((r_Cells.length : Nat) : Int))) then (bif (decide ((IntKind.wrap .i64 (x + (1 : Int))) < ((r_Cells.length : Nat) : Int))) then (k37_4 (true, (IntKind.wrap .i64 (x + (1 : Int))))) else (k37_4 (((r_Cells.getD x.toNat ((0 : Int), ((0 : Int), false))).1 == (0 : Int)), (IntKind.wrap .i64 (x + (1 : Int)))))) else (k37_4 (false, (IntKind.wrap .i64 (x + (1 : Int)))))) else (k37_4 (false, (IntKind.wrap .i64 (x + (1 : Int))))))) else (k37_4 (false, (IntKind.wrap .i64 (x + (1 : Int)))))) else none) else (bif (!fine_2) then (some (4 : Int)) else (some (0 : Int))))
def F37_j3 (n : Nat) (r_Cells : List (Int × Int × Bool)) : Bool → Option Int
  | fine => (loopF (F37_l4 n r_Cells) n (fine, (0 : Int)))
def F37 (n : Nat) (r_Cells : List (Int × Int × Bool)) (r_Put_At : Int) (r_Put_Bit : Int) (r_Get_At : Int) (r_Get_Bit : Int) (r_Seen : Int) : Option Int := ((F19 n ((r_Cells.length : Nat) : Int) (3 : Int) (64 : Int)).bind fun y_2 => (bif (!y_2) then (some (1 : Int)) else ((F19 n r_Put_Bit (0 : Int) (1 : Int)).bind fun y_4 => (bif y_4 then ((F19 n r_Get_Bit (0 : Int) (1 : Int)).bind fun y_5 => (bif y_5 then ((F19 n r_Put_At (0 : Int) (IntKind.wrap .i64 (((r_Cells.length : Nat) : Int) - (2 : Int)))).bind fun y_6 => (bif y_6 then ((F19 n r_Get_At (0 : Int) (IntKind.wrap .i64 (((r_Cells.length : Nat) : Int) - (2 : Int)))).bind fun y_7 => (bif y_7 then ((F19 n r_Seen (0 : Int) (IntKind.wrap .i64 (((r_Cells.length : Nat) : Int) - (2 : Int)))).bind fun y_8 => (F37_j3 n r_Cells y_8)) else (F37_j3 n r_Cells false))) else (F37_j3 n r_Cells false))) else (F37_j3 n r_Cells false))) else (F37_j3 n r_Cells false)))))
theorem F37_ok (n : Nat) (r_Cells : List (Int × Int × Bool)) (r_Put_At : Int) (r_Put_Bit : Int) (r_Get_At : Int) (r_Get_Bit : Int) (r_Seen : Int) (r : Int) (h : F37 n r_Cells r_Put_At r_Put_Bit r_Get_At r_Get_Bit r_Seen = some r) : PureC Try.prog 37 [(.st (.cons (.sl (.st (.pair (.int .u64) (.pair (.int .i64) .bool))) r_Cells) (.cons (.st (.cons (.int .i64 r_Put_At) (.int .i64 r_Put_Bit))) (.cons (.st (.cons (.int .i64 r_Get_At) (.int .i64 r_Get_Bit))) (.int .i64 r_Seen)))))] (.int .i64 r) [] := by
  refine PureC.mkS Try.func37 rfl rfl ?_
  intro w0 fz0 hfz
  replace h : ((F19 n ((r_Cells.length : Nat) : Int) (3 : Int) (64 : Int)).bind fun y_2 => (bif (!y_2) then (some (1 : Int)) else ((F19 n r_Put_Bit (0 : Int) (1 : Int)).bind fun y_4 => (bif y_4 then ((F19 n r_Get_Bit (0 : Int) (1 : Int)).bind fun y_5 => (bif y_5 then ((F19 n r_Put_At (0 : Int) (IntKind.wrap .i64 (((r_Cells.length : Nat) : Int) - (2 : Int)))).bind fun y_6 => (bif y_6 then ((F19 n r_Get_At (0 : Int) (IntKind.wrap .i64 (((r_Cells.length : Nat) : Int) - (2 : Int)))).bind fun y_7 => (bif y_7 then ((F19 n r_Seen (0 : Int) (IntKind.wrap .i64 (((r_Cells.length : Nat) : Int) - (2 : Int)))).bind fun y_8 => (F37_j3 n r_Cells y_8)) else (F37_j3 n r_Cells false))) else (F37_j3 n r_Cells false))) else (F37_j3 n r_Cells false))) else (F37_j3 n r_Cells false))))) = some r := h
  refine TS.seq ?_
  have hq : (True) ∧ ((True) ∧ (True)) := ⟨trivial, ⟨trivial, trivial⟩⟩
  refine TS.reg [] ?_ ?_
  · apply prop_of ?_ hq
    kernel_rfl
  refine XS.then ?_
  refine TS.seq ?_
  have hq : (True) ∧ ((True) ∧ ((True) ∧ ((True) ∧ (True)))) := ⟨trivial, ⟨trivial, ⟨trivial, ⟨trivial, trivial⟩⟩⟩⟩
  refine TS.reg [] ?_ ?_
  · apply prop_of ?_ hq
    kernel_rfl
  refine XS.then ?_
  refine TS.seq ?_
  refine TS.seq ?_
  obtain ⟨y_2, hx1, h⟩ := bind_some' h
  have hq : (True) ∧ ((PureC Try.prog 19 [(.int .i64 ((r_Cells.length : Nat) : Int)), (.int .i64 (3 : Int)), (.int .i64 (64 : Int))] (.bool y_2) []) ∧ ((True) ∧ (True))) := ⟨trivial, ⟨F19_ok n ((r_Cells.length : Nat) : Int) (3 : Int) (64 : Int) y_2 hx1, ⟨trivial, trivial⟩⟩⟩
  refine TS.reg [.none, (.call (.bool y_2) [])] ?_ ?_
  · apply prop_of ?_ hq
    kernel_rfl
  refine XS.then ?_
  rcases bif_some h with ⟨c2, h⟩ | ⟨c3, h⟩
  · refine TS.cond (!y_2) ?_ (fun e => ?_) (fun e => by rw [c2] at e; cases e)
    · kernel_rfl
    refine TS.seq ?_
    have hq : (True) ∧ (True) := ⟨trivial, trivial⟩
    refine TS.reg [] ?_ ?_
    · apply prop_of ?_ hq
      kernel_rfl
    refine XS.then ?_
    refine TS.ret ?_
    refine XS.passR ?_
    obtain rfl : (1 : Int) = r := Option.some.inj h
    exact XS.fin [] ((True) ∧ (True)) (by kernel_rfl) ⟨trivial, trivial⟩
  · refine TS.cond (!y_2) ?_ (fun e => by rw [c3] at e; cases e) (fun e => ?_)
    · kernel_rfl
    refine TS.skip ?_
    refine XS.then ?_
    refine TS.seq ?_
    refine TS.cut (D := Bool) (fun d => match d with | fine => (mkTs 83 [(1, (.ptr 0 [])), (3, (.int .i64 ((r_Cells.length : Nat) : Int))), (4, (.bool fine))], [(.box 65 (.st (.cons (.sl (.st (.pair (.int .u64) (.pair (.int .i64) .bool))) r_Cells) (.cons (.st (.cons (.int .i64 r_Put_At) (.int .i64 r_Put_Bit))) (.cons (.st (.cons (.int .i64 r_Get_At) (.int .i64 r_Get_Bit))) (.int .i64 r_Seen))))))])) (fun d => F37_j3 n r_Cells d = some r) ?_ ?_
    · rintro fine h
      replace h : (loopF (F37_l4 n r_Cells) n (fine, (0 : Int))) = some r := h
      refine XS.then ?_
      refine TS.seq ?_
      refine TS.seq ?_
      have hq : (True) ∧ ((True) ∧ ((True) ∧ ((True) ∧ (True)))) := ⟨trivial, ⟨trivial, ⟨trivial, ⟨trivial, trivial⟩⟩⟩⟩
      refine TS.reg [] ?_ ?_
      · apply prop_of ?_ hq
        kernel_rfl
      refine XS.then ?_
      refine TS.block ?_
      refine TS.reLoop [] (mkMask 83 [3, 4, 47, 48, 49]) (D := Bool × Int) (fun d => match d with | (fine_2, x) => (mkTs 83 [(3, (.int .i64 ((r_Cells.length : Nat) : Int))), (4, (.bool fine_2)), (47, (.sl (.st (.pair (.int .u64) (.pair (.int .i64) .bool))) r_Cells)), (48, (.int .i64 ((r_Cells.length : Nat) : Int))), (49, (.int .i64 x))], [])) (fun n' d => loopF (F37_l4 n r_Cells) n' d = some r) n (fine, (0 : Int)) h ?_ (fun d => loopF_zero _ d r) ?_
      · kernel_rfl
      · rintro n4 ⟨fine_2, x⟩ h
        replace h : (bif (decide (x < ((r_Cells.length : Nat) : Int))) then (bif inb x r_Cells.length then (bif fine_2 then ((F19 n ((r_Cells.getD x.toNat ((0 : Int), ((0 : Int), false))).2.1) (0 : Int) (1 : Int)).bind fun y_3 => (bif y_3 then (bif ((r_Cells.getD x.toNat ((0 : Int), ((0 : Int), false))).2.2 == ((IntKind.wrap .i64 (x + (1 : Int))) == ((r_Cells.length : Nat) : Int))) then (bif (decide ((IntKind.wrap .i64 (x + (1 : Int))) < ((r_Cells.length : Nat) : Int))) then ((loopF (F37_l4 n r_Cells) n4) (true, (IntKind.wrap .i64 (x + (1 : Int))))) else ((loopF (F37_l4 n r_Cells) n4) (((r_Cells.getD x.toNat ((0 : Int), ((0 : Int), false))).1 == (0 : Int)), (IntKind.wrap .i64 (x + (1 : Int)))))) else ((loopF (F37_l4 n r_Cells) n4) (false, (IntKind.wrap .i64 (x + (1 : Int)))))) else ((loopF (F37_l4 n r_Cells) n4) (false, (IntKind.wrap .i64 (x + (1 : Int))))))) else ((loopF (F37_l4 n r_Cells) n4) (false, (IntKind.wrap .i64 (x + (1 : Int)))))) else none) else (bif (!fine_2) then (some (4 : Int)) else (some (0 : Int)))) = some r := h
        refine TS.seq ?_
        have hq : (True) ∧ (True) := ⟨trivial, trivial⟩
        refine TS.reg [] ?_ ?_
        · apply prop_of ?_ hq
          kernel_rfl
        refine XS.then ?_
        refine TS.seq ?_
        rcases bif_some h with ⟨c4, h⟩ | ⟨c5, h⟩
        · refine TS.cond (decide (x < ((r_Cells.length : Nat) : Int))) ?_ (fun e => ?_) (fun e => by rw [c4] at e; cases e)
          · kernel_rfl
          refine TS.skip ?_
          refine XS.then ?_
          refine TS.seq ?_
          refine TS.block ?_
          refine TS.seq ?_
          obtain ⟨t6, h⟩ := test_some h
          have hq : (True) ∧ ((inR x r_Cells.length) ∧ ((True) ∧ ((True) ∧ ((True) ∧ ((True) ∧ (True)))))) := ⟨trivial, ⟨inb_ok t6, ⟨trivial, ⟨trivial, ⟨trivial, ⟨trivial, trivial⟩⟩⟩⟩⟩⟩
          refine TS.reg [] ?_ ?_
          · apply prop_of ?_ hq
            kernel_rfl
          refine XS.then ?_
          rcases bif_some h with ⟨c7, h⟩ | ⟨c8, h⟩
          · obtain ⟨y_3, hx9, h⟩ := bind_some' h
            rcases bif_some h with ⟨c10, h⟩ | ⟨c11, h⟩
            · rcases bif_some h with ⟨c12, h⟩ | ⟨c13, h⟩
              · rcases bif_some h with ⟨c14, h⟩ | ⟨c15, h⟩
                · have hq : (True) ∧ (((True) ∧ fine_2 = true) ∧ ((True) ∧ ((True) ∧ ((PureC Try.prog 19 [(.int .i64 (r_Cells.getD x.toNat ((0 : Int), ((0 : Int), false))).2.1), (.int .i64 (0 : Int)), (.int .i64 (1 : Int))] (.bool y_3) []) ∧ ((True) ∧ (((True) ∧ y_3 = true) ∧ ((True) ∧ ((True) ∧ ((True) ∧ ((True) ∧ ((True) ∧ ((True) ∧ ((True) ∧ ((True) ∧ (((True) ∧ ((r_Cells.getD x.toNat ((0 : Int), ((0 : Int), false))).2.2 == ((IntKind.wrap .i64 (x + (1 : Int))) == ((r_Cells.length : Nat) : Int))) = true) ∧ ((True) ∧ ((True) ∧ ((True) ∧ ((True) ∧ (((True) ∧ (decide ((IntKind.wrap .i64 (x + (1 : Int))) < ((r_Cells.length : Nat) : Int))) = true) ∧ ((True) ∧ ((True) ∧ ((True) ∧ (True)))))))))))))))))))))))) := ⟨trivial, ⟨⟨trivial, c7⟩, ⟨trivial, ⟨trivial, ⟨F19_ok n ((r_Cells.getD x.toNat ((0 : Int), ((0 : Int), false))).2.1) (0 : Int) (1 : Int) y_3 hx9, ⟨trivial, ⟨⟨trivial, c10⟩, ⟨trivial, ⟨trivial, ⟨trivial, ⟨trivial, ⟨trivial, ⟨trivial, ⟨trivial, ⟨trivial, ⟨⟨trivial, c12⟩, ⟨trivial, ⟨trivial, ⟨trivial, ⟨trivial, ⟨⟨trivial, c14⟩, ⟨trivial, ⟨trivial, ⟨trivial, trivial⟩⟩⟩⟩⟩⟩⟩⟩⟩⟩⟩⟩⟩⟩⟩⟩⟩⟩⟩⟩⟩⟩⟩⟩
                  refine TS.reg [.none, .dec true, .none, .none, (.call (.bool y_3) []), .none, .dec true, .none, .none, .none, .none, .none, .none, .none, .none, .dec true, .none, .none, .none, .none, .dec true] ?_ ?_
                  · apply prop_of ?_ hq
                    kernel_rfl
                  refine XS.blockEnd ?_
                  refine XS.then ?_
                  have hq : (True) ∧ ((True) ∧ (True)) := ⟨trivial, ⟨trivial, trivial⟩⟩
                  refine TS.reg [] ?_ ?_
                  · apply prop_of ?_ hq
                    kernel_rfl
                  refine XS.reAny [] (mkMask 83 [3, 4, 47, 48, 49]) (true, (IntKind.wrap .i64 (x + (1 : Int)))) h ?_
                  kernel_rfl
                · have hq : (True) ∧ (((True) ∧ fine_2 = true) ∧ ((True) ∧ ((True) ∧ ((PureC Try.prog 19 [(.int .i64 (r_Cells.getD x.toNat ((0 : Int), ((0 : Int), false))).2.1), (.int .i64 (0 : Int)), (.int .i64 (1 : Int))] (.bool y_3) []) ∧ ((True) ∧ (((True) ∧ y_3 = true) ∧ ((True) ∧ ((True) ∧ ((True) ∧ ((True) ∧ ((True) ∧ ((True) ∧ ((True) ∧ ((True) ∧ (((True) ∧ ((r_Cells.getD x.toNat ((0 : Int), ((0 : Int), false))).2.2 == ((IntKind.wrap .i64 (x + (1 : Int))) == ((r_Cells.length : Nat) : Int))) = true) ∧ ((True) ∧ ((True) ∧ ((True) ∧ ((True) ∧ (((True) ∧ (decide ((IntKind.wrap .i64 (x + (1 : Int))) < ((r_Cells.length : Nat) : Int))) = false) ∧ ((True) ∧ ((True) ∧ ((True) ∧ ((True) ∧ ((True) ∧ ((True) ∧ (True))))))))))))))))))))))))))) := ⟨trivial, ⟨⟨trivial, c7⟩, ⟨trivial, ⟨trivial, ⟨F19_ok n ((r_Cells.getD x.toNat ((0 : Int), ((0 : Int), false))).2.1) (0 : Int) (1 : Int) y_3 hx9, ⟨trivial, ⟨⟨trivial, c10⟩, ⟨trivial, ⟨trivial, ⟨trivial, ⟨trivial, ⟨trivial, ⟨trivial, ⟨trivial, ⟨trivial, ⟨⟨trivial, c12⟩, ⟨trivial, ⟨trivial, ⟨trivial, ⟨trivial, ⟨⟨trivial, c15⟩, ⟨trivial, ⟨trivial, ⟨trivial, ⟨trivial, ⟨trivial, ⟨trivial, trivial⟩⟩⟩⟩⟩⟩⟩⟩⟩⟩⟩⟩⟩⟩⟩⟩⟩⟩⟩⟩⟩⟩⟩⟩⟩⟩⟩
                  refine TS.reg [.none, .dec true, .none, .none, (.call (.bool y_3) []), .none, .dec true, .none, .none, .none, .none, .none, .none, .none, .none, .dec true, .none, .none, .none, .none, .dec false] ?_ ?_
                  · apply prop_of ?_ hq
                    kernel_rfl
                  refine XS.blockEnd ?_
                  refine XS.then ?_
                  have hq : (True) ∧ ((True) ∧ (True)) := ⟨trivial, ⟨trivial, trivial⟩⟩
                  refine TS.reg [] ?_ ?_
                  · apply prop_of ?_ hq
                    kernel_rfl
                  refine XS.reAny [] (mkMask 83 [3, 4, 47, 48, 49]) (((r_Cells.getD x.toNat ((0 : Int), ((0 : Int), false))).1 == (0 : Int)), (IntKind.wrap .i64 (x + (1 : Int)))) h ?_
                  kernel_rfl
              · have hq : (True) ∧ (((True) ∧ fine_2 = true) ∧ ((True) ∧ ((True) ∧ ((PureC Try.prog 19 [(.int .i64 (r_Cells.getD x.toNat ((0 : Int), ((0 : Int), false))).2.1), (.int .i64 (0 : Int)), (.int .i64 (1 : Int))] (.bool y_3) []) ∧ ((True) ∧ (((True) ∧ y_3 = true) ∧ ((True) ∧ ((True) ∧ ((True) ∧ ((True) ∧ ((True) ∧ ((True) ∧ ((True) ∧ ((True) ∧ (((True) ∧ ((r_Cells.getD x.toNat ((0 : Int), ((0 : Int), false))).2.2 == ((IntKind.wrap .i64 (x + (1 : Int))) == ((r_Cells.length : Nat) : Int))) = false) ∧ ((True) ∧ ((True) ∧ (True)))))))))))))))))) := ⟨trivial, ⟨⟨trivial, c7⟩, ⟨trivial, ⟨trivial, ⟨F19_ok n ((r_Cells.getD x.toNat ((0 : Int), ((0 : Int), false))).2.1) (0 : Int) (1 : Int) y_3 hx9, ⟨trivial, ⟨⟨trivial, c10⟩, ⟨trivial, ⟨trivial, ⟨trivial, ⟨trivial, ⟨trivial, ⟨trivial, ⟨trivial, ⟨trivial, ⟨⟨trivial, c13⟩, ⟨trivial, ⟨trivial, trivial⟩⟩⟩⟩⟩⟩⟩⟩⟩⟩⟩⟩⟩⟩⟩⟩⟩⟩
                refine TS.reg [.none, .dec true, .none, .none, (.call (.bool y_3) []), .none, .dec true, .none, .none, .none, .none, .none, .none, .none, .none, .dec false] ?_ ?_
                · apply prop_of ?_ hq
                  kernel_rfl
                refine XS.blockEnd ?_
                refine XS.then ?_
                have hq : (True) ∧ ((True) ∧ (True)) := ⟨trivial, ⟨trivial, trivial⟩⟩
                refine TS.reg [] ?_ ?_
                · apply prop_of ?_ hq
                  kernel_rfl
                refine XS.reAny [] (mkMask 83 [3, 4, 47, 48, 49]) (false, (IntKind.wrap .i64 (x + (1 : Int)))) h ?_
                kernel_rfl
            · have hq : (True) ∧ (((True) ∧ fine_2 = true) ∧ ((True) ∧ ((True) ∧ ((PureC Try.prog 19 [(.int .i64 (r_Cells.getD x.toNat ((0 : Int), ((0 : Int), false))).2.1), (.int .i64 (0 : Int)), (.int .i64 (1 : Int))] (.bool y_3) []) ∧ ((True) ∧ (((True) ∧ y_3 = false) ∧ ((True) ∧ ((True) ∧ ((True) ∧ ((True) ∧ (True))))))))))) := ⟨trivial, ⟨⟨trivial, c7⟩, ⟨trivial, ⟨trivial, ⟨F19_ok n ((r_Cells.getD x.toNat ((0 : Int), ((0 : Int), false))).2.1) (0 : Int) (1 : Int) y_3 hx9, ⟨trivial, ⟨⟨trivial, c11⟩, ⟨trivial, ⟨trivial, ⟨trivial, ⟨trivial, trivial⟩⟩⟩⟩⟩⟩⟩⟩⟩⟩⟩
              refine TS.reg [.none, .dec true, .none, .none, (.call (.bool y_3) []), .none, .dec false] ?_ ?_
              · apply prop_of ?_ hq
                kernel_rfl
              refine XS.blockEnd ?_
              refine XS.then ?_
              have hq : (True) ∧ ((True) ∧ (True)) := ⟨trivial, ⟨trivial, trivial⟩⟩
              refine TS.reg [] ?_ ?_
              · apply prop_of ?_ hq
                kernel_rfl
              refine XS.reAny [] (mkMask 83 [3, 4, 47, 48, 49]) (false, (IntKind.wrap .i64 (x + (1 : Int)))) h ?_
              kernel_rfl
          · have hq : (True) ∧ (((True) ∧ fine_2 = false) ∧ ((True) ∧ ((True) ∧ ((True) ∧ ((True) ∧ ((True) ∧ ((True) ∧ (True)))))))) := ⟨trivial, ⟨⟨trivial, c8⟩, ⟨trivial, ⟨trivial, ⟨trivial, ⟨trivial, ⟨trivial, ⟨trivial, trivial⟩⟩⟩⟩⟩⟩⟩⟩
            refine TS.reg [.none, .dec false] ?_ ?_
            · apply prop_of ?_ hq
              kernel_rfl
            refine XS.blockEnd ?_
            refine XS.then ?_
            have hq : (True) ∧ ((True) ∧ (True)) := ⟨trivial, ⟨trivial, trivial⟩⟩
            refine TS.reg [] ?_ ?_
            · apply prop_of ?_ hq
              kernel_rfl
            refine XS.reAny [] (mkMask 83 [3, 4, 47, 48, 49]) (false, (IntKind.wrap .i64 (x + (1 : Int)))) h ?_
            kernel_rfl
        · refine TS.cond (decide (x < ((r_Cells.length : Nat) : Int))) ?_ (fun e => by rw [c5] at e; cases e) (fun e => ?_)
          · kernel_rfl
          refine TS.exit ?_
          refine XS.passE ?_
          refine XS.passE ?_
          refine XS.out ?_
          refine XS.then ?_
          refine TS.seq ?_
          refine TS.seq ?_
          have hq : (True) ∧ ((True) ∧ (True)) := ⟨trivial, ⟨trivial, trivial⟩⟩
          refine TS.reg [] ?_ ?_
          · apply prop_of ?_ hq
            kernel_rfl
          refine XS.then ?_
          rcases bif_some h with ⟨c16, h⟩ | ⟨c17, h⟩
          · refine TS.cond (!fine_2) ?_ (fun e => ?_) (fun e => by rw [c16] at e; cases e)
            · kernel_rfl
            refine TS.seq ?_
            have hq : (True) ∧ (True) := ⟨trivial, trivial⟩
            refine TS.reg [] ?_ ?_
            · apply prop_of ?_ hq
              kernel_rfl
            refine XS.then ?_
            refine TS.ret ?_
            refine XS.passR ?_
            obtain rfl : (4 : Int) = r := Option.some.inj h
            exact XS.fin [] ((True) ∧ (True)) (by kernel_rfl) ⟨trivial, trivial⟩
          · refine TS.cond (!fine_2) ?_ (fun e => by rw [c17] at e; cases e) (fun e => ?_)
            · kernel_rfl
            refine TS.skip ?_
            refine XS.then ?_
            refine TS.seq ?_
            have hq : (True) ∧ (True) := ⟨trivial, trivial⟩
            refine TS.reg [] ?_ ?_
            · apply prop_of ?_ hq
              kernel_rfl
            refine XS.then ?_
            refine TS.ret ?_
            obtain rfl : (0 : Int) = r := Option.some.inj h
            exact XS.fin [] ((True) ∧ (True)) (by kernel_rfl) ⟨trivial, trivial⟩
    · obtain ⟨y_4, hx18, h⟩ := bind_some' h
      rcases bif_some h with ⟨c19, h⟩ | ⟨c20, h⟩
      · obtain ⟨y_5, hx21, h⟩ := bind_some' h
        rcases bif_some h with ⟨c22, h⟩ | ⟨c23, h⟩
        · obtain ⟨y_6, hx24, h⟩ := bind_some' h
          rcases bif_some h with ⟨c25, h⟩ | ⟨c26, h⟩
          · obtain ⟨y_7, hx27, h⟩ := bind_some' h
            rcases bif_some h with ⟨c28, h⟩ | ⟨c29, h⟩
            · obtain ⟨y_8, hx30, h⟩ := bind_some' h
              have hq : (True) ∧ ((True) ∧ ((True) ∧ ((PureC Try.prog 19 [(.int .i64 r_Put_Bit), (.int .i64 (0 : Int)), (.int .i64 (1 : Int))] (.bool y_4) []) ∧ (((True) ∧ y_4 = true) ∧ ((True) ∧ ((True) ∧ ((True) ∧ ((PureC Try.prog 19 [(.int .i64 r_Get_Bit), (.int .i64 (0 : Int)), (.int .i64 (1 : Int))] (.bool y_5) []) ∧ ((True) ∧ (((True) ∧ y_5 = true) ∧ ((True) ∧ ((True) ∧ ((True) ∧ ((True) ∧ ((True) ∧ ((PureC Try.prog 19 [(.int .i64 r_Put_At), (.int .i64 (0 : Int)), (.int .i64 (IntKind.wrap .i64 (((r_Cells.length : Nat) : Int) - (2 : Int))))] (.bool y_6) []) ∧ ((True) ∧ (((True) ∧ y_6 = true) ∧ ((True) ∧ ((True) ∧ ((True) ∧ ((True) ∧ ((True) ∧ ((PureC Try.prog 19 [(.int .i64 r_Get_At), (.int .i64 (0 : Int)), (.int .i64 (IntKind.wrap .i64 (((r_Cells.length : Nat) : Int) - (2 : Int))))] (.bool y_7) []) ∧ ((True) ∧ (((True) ∧ y_7 = true) ∧ ((True) ∧ ((True) ∧ ((True) ∧ ((True) ∧ ((PureC Try.prog 19 [(.int .i64 r_Seen), (.int .i64 (0 : Int)), (.int .i64 (IntKind.wrap .i64 (((r_Cells.length : Nat) : Int) - (2 : Int))))] (.bool y_8) []) ∧ ((True) ∧ ((True) ∧ (True)))))))))))))))))))))))))))))))))) := ⟨trivial, ⟨trivial, ⟨trivial, ⟨F19_ok n r_Put_Bit (0 : Int) (1 : Int) y_4 hx18, ⟨⟨trivial, c19⟩, ⟨trivial, ⟨trivial, ⟨trivial, ⟨F19_ok n r_Get_Bit (0 : Int) (1 : Int) y_5 hx21, ⟨trivial, ⟨⟨trivial, c22⟩, ⟨trivial, ⟨trivial, ⟨trivial, ⟨trivial, ⟨trivial, ⟨F19_ok n r_Put_At (0 : Int) (IntKind.wrap .i64 (((r_Cells.length : Nat) : Int) - (2 : Int))) y_6 hx24, ⟨trivial, ⟨⟨trivial, c25⟩, ⟨trivial, ⟨trivial, ⟨trivial, ⟨trivial, ⟨trivial, ⟨F19_ok n r_Get_At (0 : Int) (IntKind.wrap .i64 (((r_Cells.length : Nat) : Int) - (2 : Int))) y_7 hx27, ⟨trivial, ⟨⟨trivial, c28⟩, ⟨trivial, ⟨trivial, ⟨trivial, ⟨trivial, ⟨F19_ok n r_Seen (0 : Int) (IntKind.wrap .i64 (((r_Cells.length : Nat) : Int) - (2 : Int))) y_8 hx30, ⟨trivial, ⟨trivial, trivial⟩⟩⟩⟩⟩⟩⟩⟩⟩⟩⟩⟩⟩⟩⟩⟩⟩⟩⟩⟩⟩⟩⟩⟩⟩⟩⟩⟩⟩⟩⟩⟩⟩⟩
              refine TS.reg [.none, .none, .none, (.call (.bool y_4) []), .dec true, .none, .none, .none, (.call (.bool y_5) []), .none, .dec true, .none, .none, .none, .none, .none, (.call (.bool y_6) []), .none, .dec true, .none, .none, .none, .none, .none, (.call (.bool y_7) []), .none, .dec true, .none, .none, .none, .none, (.call (.bool y_8) [])] ?_ ?_
              · apply prop_of ?_ hq
                kernel_rfl
              refine XS.reAny [0] (mkMask 83 [1, 3, 4]) y_8 h ?_
              kernel_rfl
            · have hq : (True) ∧ ((True) ∧ ((True) ∧ ((PureC Try.prog 19 [(.int .i64 r_Put_Bit), (.int .i64 (0 : Int)), (.int .i64 (1 : Int))] (.bool y_4) []) ∧ (((True) ∧ y_4 = true) ∧ ((True) ∧ ((True) ∧ ((True) ∧ ((PureC Try.prog 19 [(.int .i64 r_Get_Bit), (.int .i64 (0 : Int)), (.int .i64 (1 : Int))] (.bool y_5) []) ∧ ((True) ∧ (((True) ∧ y_5 = true) ∧ ((True) ∧ ((True) ∧ ((True) ∧ ((True) ∧ ((True) ∧ ((PureC Try.prog 19 [(.int .i64 r_Put_At), (.int .i64 (0 : Int)), (.int .i64 (IntKind.wrap .i64 (((r_Cells.length : Nat) : Int) - (2 : Int))))] (.bool y_6) []) ∧ ((True) ∧ (((True) ∧ y_6 = true) ∧ ((True) ∧ ((True) ∧ ((True) ∧ ((True) ∧ ((True) ∧ ((PureC Try.prog 19 [(.int .i64 r_Get_At), (.int .i64 (0 : Int)), (.int .i64 (IntKind.wrap .i64 (((r_Cells.length : Nat) : Int) - (2 : Int))))] (.bool y_7) []) ∧ ((True) ∧ (((True) ∧ y_7 = false) ∧ ((True) ∧ ((True) ∧ (True))))))))))))))))))))))))))))) := ⟨trivial, ⟨trivial, ⟨trivial, ⟨F19_ok n r_Put_Bit (0 : Int) (1 : Int) y_4 hx18, ⟨⟨trivial, c19⟩, ⟨trivial, ⟨trivial, ⟨trivial, ⟨F19_ok n r_Get_Bit (0 : Int) (1 : Int) y_5 hx21, ⟨trivial, ⟨⟨trivial, c22⟩, ⟨trivial, ⟨trivial, ⟨trivial, ⟨trivial, ⟨trivial, ⟨F19_ok n r_Put_At (0 : Int) (IntKind.wrap .i64 (((r_Cells.length : Nat) : Int) - (2 : Int))) y_6 hx24, ⟨trivial, ⟨⟨trivial, c25⟩, ⟨trivial, ⟨trivial, ⟨trivial, ⟨trivial, ⟨trivial, ⟨F19_ok n r_Get_At (0 : Int) (IntKind.wrap .i64 (((r_Cells.length : Nat) : Int) - (2 : Int))) y_7 hx27, ⟨trivial, ⟨⟨trivial, c29⟩, ⟨trivial, ⟨trivial, trivial⟩⟩⟩⟩⟩⟩⟩⟩⟩⟩⟩⟩⟩⟩⟩⟩⟩⟩⟩⟩⟩⟩⟩⟩⟩⟩⟩⟩⟩
              refine TS.reg [.none, .none, .none, (.call (.bool y_4) []), .dec true, .none, .none, .none, (.call (.bool y_5) []), .none, .dec true, .none, .none, .none, .none, .none, (.call (.bool y_6) []), .none, .dec true, .none, .none, .none, .none, .none, (.call (.bool y_7) []), .none, .dec false] ?_ ?_
              · apply prop_of ?_ hq
                kernel_rfl
              refine XS.reAny [0] (mkMask 83 [1, 3, 4]) false h ?_
              kernel_rfl
          · have hq : (True) ∧ ((True) ∧ ((True) ∧ ((PureC Try.prog 19 [(.int .i64 r_Put_Bit), (.int .i64 (0 : Int)), (.int .i64 (1 : Int))] (.bool y_4) []) ∧ (((True) ∧ y_4 = true) ∧ ((True) ∧ ((True) ∧ ((True) ∧ ((PureC Try.prog 19 [(.int .i64 r_Get_Bit), (.int .i64 (0 : Int)), (.int .i64 (1 : Int))] (.bool y_5) []) ∧ ((True) ∧ (((True) ∧ y_5 = true) ∧ ((True) ∧ ((True) ∧ ((True) ∧ ((True) ∧ ((True) ∧ ((PureC Try.prog 19 [(.int .i64 r_Put_At), (.int .i64 (0 : Int)), (.int .i64 (IntKind.wrap .i64 (((r_Cells.length : Nat) : Int) - (2 : Int))))] (.bool y_6) []) ∧ ((True) ∧ (((True) ∧ y_6 = false) ∧ ((True) ∧ ((True) ∧ ((True) ∧ ((True) ∧ (True))))))))))))))))))))))) := ⟨trivial, ⟨trivial, ⟨trivial, ⟨F19_ok n r_Put_Bit (0 : Int) (1 : Int) y_4 hx18, ⟨⟨trivial, c19⟩, ⟨trivial, ⟨trivial, ⟨trivial, ⟨F19_ok n r_Get_Bit (0 : Int) (1 : Int) y_5 hx21, ⟨trivial, ⟨⟨trivial, c22⟩, ⟨trivial, ⟨trivial, ⟨trivial, ⟨trivial, ⟨trivial, ⟨F19_ok n r_Put_At (0 : Int) (IntKind.wrap .i64 (((r_Cells.length : Nat) : Int) - (2 : Int))) y_6 hx24, ⟨trivial, ⟨⟨trivial, c26⟩, ⟨trivial, ⟨trivial, ⟨trivial, ⟨trivial, trivial⟩⟩⟩⟩⟩⟩⟩⟩⟩⟩⟩⟩⟩⟩⟩⟩⟩⟩⟩⟩⟩⟩⟩
            refine TS.reg [.none, .none, .none, (.call (.bool y_4) []), .dec true, .none, .none, .none, (.call (.bool y_5) []), .none, .dec true, .none, .none, .none, .none, .none, (.call (.bool y_6) []), .none, .dec false] ?_ ?_
            · apply prop_of ?_ hq
              kernel_rfl
            refine XS.reAny [0] (mkMask 83 [1, 3, 4]) false h ?_
            kernel_rfl
        · have hq : (True) ∧ ((True) ∧ ((True) ∧ ((PureC Try.prog 19 [(.int .i64 r_Put_Bit), (.int .i64 (0 : Int)), (.int .i64 (1 : Int))] (.bool y_4) []) ∧ (((True) ∧ y_4 = true) ∧ ((True) ∧ ((True) ∧ ((True) ∧ ((PureC Try.prog 19 [(.int .i64 r_Get_Bit), (.int .i64 (0 : Int)), (.int .i64 (1 : Int))] (.bool y_5) []) ∧ ((True) ∧ (((True) ∧ y_5 = false) ∧ ((True) ∧ ((True) ∧ ((True) ∧ ((True) ∧ ((True) ∧ ((True) ∧ (True))))))))))))))))) := ⟨trivial, ⟨trivial, ⟨trivial, ⟨F19_ok n r_Put_Bit (0 : Int) (1 : Int) y_4 hx18, ⟨⟨trivial, c19⟩, ⟨trivial, ⟨trivial, ⟨trivial, ⟨F19_ok n r_Get_Bit (0 : Int) (1 : Int) y_5 hx21, ⟨trivial, ⟨⟨trivial, c23⟩, ⟨trivial, ⟨trivial, ⟨trivial, ⟨trivial, ⟨trivial, ⟨trivial, trivial⟩⟩⟩⟩⟩⟩⟩⟩⟩⟩⟩⟩⟩⟩⟩⟩⟩
          refine TS.reg [.none, .none, .none, (.call (.bool y_4) []), .dec true, .none, .none, .none, (.call (.bool y_5) []), .none, .dec false] ?_ ?_
          · apply prop_of ?_ hq
            kernel_rfl
          refine XS.reAny [0] (mkMask 83 [1, 3, 4]) false h ?_
          kernel_rfl
      · have hq : (True) ∧ ((True) ∧ ((True) ∧ ((PureC Try.prog 19 [(.int .i64 r_Put_Bit), (.int .i64 (0 : Int)), (.int .i64 (1 : Int))] (.bool y_4) []) ∧ (((True) ∧ y_4 = false) ∧ ((True) ∧ ((True) ∧ ((True) ∧ ((True) ∧ ((True) ∧ ((True) ∧ ((True) ∧ ((True) ∧ (True))))))))))))) := ⟨trivial, ⟨trivial, ⟨trivial, ⟨F19_ok n r_Put_Bit (0 : Int) (1 : Int) y_4 hx18, ⟨⟨trivial, c20⟩, ⟨trivial, ⟨trivial, ⟨trivial, ⟨trivial, ⟨trivial, ⟨trivial, ⟨trivial, ⟨trivial, trivial⟩⟩⟩⟩⟩⟩⟩⟩⟩⟩⟩⟩⟩
        refine TS.reg [.none, .none, .none, (.call (.bool y_4) []), .dec false] ?_ ?_
        · apply prop_of ?_ hq
          kernel_rfl
        refine XS.reAny [0] (mkMask 83 [1, 3, 4]) false h ?_
        kernel_rfl

/-! slices.Equal[[]plugtree/api.Cell,plugtree/api.Cell] -/
def F80_l2 (n : Nat) (s1 : List (Int × Int × Bool)) (s2 : List (Int × Int × Bool)) (k80_2 : Int → Option Bool) : Int → Option Bool
  | x => (bif (decide (x < ((s1.length : Nat) : Int))) then (bif inb x s1.length then (bif inb x s2.length then (bif (!(Sh.beq (.st (.pair (.int .u64) (.pair (.int .i64) .bool))) ((s1.getD x.toNat ((0 : Int), ((0 : Int), false))).1, ((s1.getD x.toNat ((0 : Int), ((0 : Int), false))).2.1, (s1.getD x.toNat ((0 : Int), ((0 : Int), false))).2.2)) ((s2.getD x.toNat ((0 : Int), ((0 : Int), false))).1, ((s2.getD x.toNat ((0 : Int), ((0 : Int), false))).2.1, (s2.getD x.toNat ((0 : Int), ((0 : Int), false))).2.2)))) then (some false) else (k80_2 (IntKind.wrap .i64 (x + (1 : Int))))) else none) else none) else (some true))
def F80 (n : Nat) (s1 : List (Int × Int × Bool)) (s2 : List (Int × Int × Bool)) : Option Bool := (bif (((s1.length : Nat) : Int) != ((s2.length : Nat) : Int)) then (some false) else (loopF (F80_l2 n s1 s2) n (0 : Int)))
theorem F80_ok (n : Nat) (s1 : List (Int × Int × Bool)) (s2 : List (Int × Int × Bool)) (r : Bool) (h : F80 n s1 s2 = some r) : PureC Try.prog 80 [(.sl (.st (.pair (.int .u64) (.pair (.int .i64) .bool))) s1), (.sl (.st (.pair (.int .u64) (.pair (.int .i64) .bool))) s2)] (.bool r) [] := by
  refine PureC.mkS Try.func80 rfl rfl ?_
  intro w0 fz0 hfz
  replace h : (bif (((s1.length : Nat) : Int) != ((s2.length : Nat) : Int)) then (some false) else (loopF (F80_l2 n s1 s2) n (0 : Int))) = some r := h
  refine TS.seq ?_
  have hq : (True) ∧ (True) := ⟨trivial, trivial⟩
  refine TS.reg [] ?_ ?_
  · apply prop_of ?_ hq
    kernel_rfl
  refine XS.then ?_
  refine TS.seq ?_
  refine TS.seq ?_
  have hq : (True) ∧ ((True) ∧ ((True) ∧ ((True) ∧ ((True) ∧ (True))))) := ⟨trivial, ⟨trivial, ⟨trivial, ⟨trivial, ⟨trivial, trivial⟩⟩⟩⟩⟩
  refine TS.reg [] ?_ ?_
  · apply prop_of ?_ hq
    kernel_rfl
  refine XS.then ?_
  rcases bif_some h with ⟨c1, h⟩ | ⟨c2, h⟩
  · refine TS.cond (((s1.length : Nat) : Int) != ((s2.length : Nat) : Int)) ?_ (fun e => ?_) (fun e => by rw [c1] at e; cases e)
    · kernel_rfl
    refine TS.seq ?_
    have hq : (True) ∧ (True) := ⟨trivial, trivial⟩
    refine TS.reg [] ?_ ?_
    · apply prop_of ?_ hq
      kernel_rfl
    refine XS.then ?_
    refine TS.ret ?_
    refine XS.passR ?_
    obtain rfl : false = r := Option.some.inj h
    exact XS.fin [] ((True) ∧ (True)) (by kernel_rfl) ⟨trivial, trivial⟩
  · refine TS.cond (((s1.length : Nat) : Int) != ((s2.length : Nat) : Int)) ?_ (fun e => by rw [c2] at e; cases e) (fun e => ?_)
    · kernel_rfl
    refine TS.skip ?_
    refine XS.then ?_
    refine TS.seq ?_
    refine TS.seq ?_
    have hq : (True) ∧ ((True) ∧ ((True) ∧ (True))) := ⟨trivial, ⟨trivial, ⟨trivial, trivial⟩⟩⟩
    refine TS.reg [] ?_ ?_
    · apply prop_of ?_ hq
      kernel_rfl
    refine XS.then ?_
    refine TS.block ?_
    refine TS.reLoop [] (mkMask 26 [0, 1, 12, 13]) (D := Int) (fun d => match d with | x => (mkTs 26 [(0, (.sl (.st (.pair (.int .u64) (.pair (.int .i64) .bool))) s1)), (1, (.sl (.st (.pair (.int .u64) (.pair (.int .i64) .bool))) s2)), (12, (.int .i64 ((s1.length : Nat) : Int))), (13, (.int .i64 x))], [])) (fun n' d => loopF (F80_l2 n s1 s2) n' d = some r) n (0 : Int) h ?_ (fun d => loopF_zero _ d r) ?_
    · kernel_rfl
    · rintro n2 x h
      replace h : (bif (decide (x < ((s1.length : Nat) : Int))) then (bif inb x s1.length then (bif inb x s2.length then (bif (!(Sh.beq (.st (.pair (.int .u64) (.pair (.int .i64) .bool))) ((s1.getD x.toNat ((0 : Int), ((0 : Int), false))).1, ((s1.getD x.toNat ((0 : Int), ((0 : Int), false))).2.1, (s1.getD x.toNat ((0 : Int), ((0 : Int), false))).2.2)) ((s2.getD x.toNat ((0 : Int), ((0 : Int), false))).1, ((s2.getD x.toNat ((0 : Int), ((0 : Int), false))).2.1, (s2.getD x.toNat ((0 : Int), ((0 : Int), false))).2.2)))) then (some false) else ((loopF (F80_l2 n s1 s2) n2) (IntKind.wrap .i64 (x + (1 : Int))))) else none) else none) else (some true)) = some r := h
      refine TS.seq ?_
      have hq : (True) ∧ (True) := ⟨trivial, trivial⟩
      refine TS.reg [] ?_ ?_
      · apply prop_of ?_ hq
        kernel_rfl
      refine XS.then ?_
      refine TS.seq ?_
      rcases bif_some h with ⟨c3, h⟩ | ⟨c4, h⟩
      · refine TS.cond (decide (x < ((s1.length : Nat) : Int))) ?_ (fun e => ?_) (fun e => by rw [c3] at e; cases e)
        · kernel_rfl
        refine TS.skip ?_
        refine XS.then ?_
        refine TS.seq ?_
        refine TS.block ?_
        refine TS.seq ?_
        have hq : (True) ∧ ((True) ∧ (True)) := ⟨trivial, ⟨trivial, trivial⟩⟩
        refine TS.reg [] ?_ ?_
        · apply prop_of ?_ hq
          kernel_rfl
        refine XS.then ?_
        refine TS.seq ?_
        obtain ⟨t5, h⟩ := test_some h
        obtain ⟨t6, h⟩ := test_some h
        have hq : ((True) ∧ ((True) ∧ ((inR x s1.length) ∧ ((True) ∧ ((True) ∧ ((True) ∧ ((inR x s2.length) ∧ ((True) ∧ ((True) ∧ (True)))))))))) ∧ (True) := ⟨⟨trivial, ⟨trivial, ⟨inb_ok t5, ⟨trivial, ⟨trivial, ⟨trivial, ⟨inb_ok t6, ⟨trivial, ⟨trivial, trivial⟩⟩⟩⟩⟩⟩⟩⟩⟩, trivial⟩
        refine TS.draw 9 [] [] (by kernel_rfl) ?_ ?_
        · apply prop_of ?_ hq
          kernel_rfl
        refine XS.then ?_
        rcases bif_some h with ⟨c7, h⟩ | ⟨c8, h⟩
        · refine TS.cond (!(Sh.beq (.st (.pair (.int .u64) (.pair (.int .i64) .bool))) ((s1.getD x.toNat ((0 : Int), ((0 : Int), false))).1, ((s1.getD x.toNat ((0 : Int), ((0 : Int), false))).2.1, (s1.getD x.toNat ((0 : Int), ((0 : Int), false))).2.2)) ((s2.getD x.toNat ((0 : Int), ((0 : Int), false))).1, ((s2.getD x.toNat ((0 : Int), ((0 : Int), false))).2.1, (s2.getD x.toNat ((0 : Int), ((0 : Int), false))).2.2)))) ?_ (fun e => ?_) (fun e => by rw [c7] at e; cases e)
          · kernel_rfl
          refine TS.seq ?_
          have hq : (True) ∧ (True) := ⟨trivial, trivial⟩
          refine TS.reg [] ?_ ?_
          · apply prop_of ?_ hq
            kernel_rfl
          refine XS.then ?_
          refine TS.ret ?_
          refine XS.blockRet ?_
          refine XS.passR ?_
          refine XS.passR ?_
          refine XS.blockRet ?_
          refine XS.passR ?_
          obtain rfl : false = r := Option.some.inj h
          exact XS.fin [] ((True) ∧ (True)) (by kernel_rfl) ⟨trivial, trivial⟩
        · refine TS.cond (!(Sh.beq (.st (.pair (.int .u64) (.pair (.int .i64) .bool))) ((s1.getD x.toNat ((0 : Int), ((0 : Int), false))).1, ((s1.getD x.toNat ((0 : Int), ((0 : Int), false))).2.1, (s1.getD x.toNat ((0 : Int), ((0 : Int), false))).2.2)) ((s2.getD x.toNat ((0 : Int), ((0 : Int), false))).1, ((s2.getD x.toNat ((0 : Int), ((0 : Int), false))).2.1, (s2.getD x.toNat ((0 : Int), ((0 : Int), false))).2.2)))) ?_ (fun e => by rw [c8] at e; cases e) (fun e => ?_)
          · kernel_rfl
          refine TS.skip ?_
          refine XS.blockEnd ?_
          refine XS.then ?_
          have hq : (True) ∧ ((True) ∧ (True)) := ⟨trivial, ⟨trivial, trivial⟩⟩
          refine TS.reg [] ?_ ?_
          · apply prop_of ?_ hq
            kernel_rfl
          refine XS.reAny [] (mkMask 26 [0, 1, 12, 13]) (IntKind.wrap .i64 (x + (1 : Int))) h ?_
          kernel_rfl
      · refine TS.cond (decide (x < ((s1.length : Nat) : Int))) ?_ (fun e => by rw [c4] at e; cases e) (fun e => ?_)
        · kernel_rfl
        refine TS.exit ?_
        refine XS.passE ?_
        refine XS.passE ?_
        refine XS.out ?_
        refine XS.then ?_
        refine TS.seq ?_
        have hq : (True) ∧ (True) := ⟨trivial, trivial⟩
        refine TS.reg [] ?_ ?_
        · apply prop_of ?_ hq
          kernel_rfl
        refine XS.then ?_
        refine TS.ret ?_
        obtain rfl : true = r := Option.some.inj h
        exact XS.fin [] ((True) ∧ (True)) (by kernel_rfl) ⟨trivial, trivial⟩

/-! plugtree/plugref.SameRing -/
def F38 (n : Nat) (a_Cells : List (Int × Int × Bool)) (a_Put_At : Int) (a_Put_Bit : Int) (a_Get_At : Int) (a_Get_Bit : Int) (a_Seen : Int) (b_Cells : List (Int × Int × Bool)) (b_Put_At : Int) (b_Put_Bit : Int) (b_Get_At : Int) (b_Get_Bit : Int) (b_Seen : Int) : Option Bool := (bif (Sh.beq (.st (.pair (.int .i64) (.int .i64))) (a_Put_At, a_Put_Bit) (b_Put_At, b_Put_Bit)) then (bif (Sh.beq (.st (.pair (.int .i64) (.int .i64))) (a_Get_At, a_Get_Bit) (b_Get_At, b_Get_Bit)) then (bif (a_Seen == b_Seen) then ((F80 n a_Cells b_Cells).bind fun y_2 => (some y_2)) else (some false)) else (some false)) else (some false))
theorem F38_ok (n : Nat) (a_Cells : List (Int × Int × Bool)) (a_Put_At : Int) (a_Put_Bit : Int) (a_Get_At : Int) (a_Get_Bit : Int) (a_Seen : Int) (b_Cells : List (Int × Int × Bool)) (b_Put_At : Int) (b_Put_Bit : Int) (b_Get_At : Int) (b_Get_Bit : Int) (b_Seen : Int) (r : Bool) (h : F38 n a_Cells a_Put_At a_Put_Bit a_Get_At a_Get_Bit a_Seen b_Cells b_Put_At b_Put_Bit b_Get_At b_Get_Bit b_Seen = some r) : PureC Try.prog 38 [(.st (.cons (.sl (.st (.pair (.int .u64) (.pair (.int .i64) .bool))) a_Cells) (.cons (.st (.cons (.int .i64 a_Put_At) (.int .i64 a_Put_Bit))) (.cons (.st (.cons (.int .i64 a_Get_At) (.int .i64 a_Get_Bit))) (.int .i64 a_Seen))))), (.st (.cons (.sl (.st (.pair (.int .u64) (.pair (.int .i64) .bool))) b_Cells) (.cons (.st (.cons (.int .i64 b_Put_At) (.int .i64 b_Put_Bit))) (.cons (.st (.cons (.int .i64 b_Get_At) (.int .i64 b_Get_Bit))) (.int .i64 b_Seen)))))] (.bool r) [] := by
  refine PureC.mkS Try.func38 rfl rfl ?_
  intro w0 fz0 hfz
  replace h : (bif (Sh.beq (.st (.pair (.int .i64) (.int .i64))) (a_Put_At, a_Put_Bit) (b_Put_At, b_Put_Bit)) then (bif (Sh.beq (.st (.pair (.int .i64) (.int .i64))) (a_Get_At, a_Get_Bit) (b_Get_At, b_Get_Bit)) then (bif (a_Seen == b_Seen) then ((F80 n a_Cells b_Cells).bind fun y_2 => (some y_2)) else (some false)) else (some false)) else (some false)) = some r := h
  refine TS.seq ?_
  have hq : (True) ∧ ((True) ∧ ((True) ∧ (True))) := ⟨trivial, ⟨trivial, ⟨trivial, trivial⟩⟩⟩
  refine TS.reg [] ?_ ?_
  · apply prop_of ?_ hq
    kernel_rfl
  refine XS.then ?_
  refine TS.seq ?_
  rcases bif_some h with ⟨c1, h⟩ | ⟨c2, h⟩
  · rcases bif_some h with ⟨c3, h⟩ | ⟨c4, h⟩
    · rcases bif_some h with ⟨c5, h⟩ | ⟨c6, h⟩
      · obtain ⟨y_2, hx7, h⟩ := bind_some' h
        have hq : (True) ∧ ((True) ∧ ((True) ∧ ((True) ∧ ((True) ∧ (((True) ∧ (Sh.beq (.st (.pair (.int .i64) (.int .i64))) (a_Put_At, a_Put_Bit) (b_Put_At, b_Put_Bit)) = true) ∧ ((True) ∧ ((True) ∧ ((True) ∧ ((True) ∧ ((True) ∧ ((True) ∧ (((True) ∧ (Sh.beq (.st (.pair (.int .i64) (.int .i64))) (a_Get_At, a_Get_Bit) (b_Get_At, b_Get_Bit)) = true) ∧ ((True) ∧ ((True) ∧ ((True) ∧ ((True) ∧ ((True) ∧ ((True) ∧ (((True) ∧ (a_Seen == b_Seen) = true) ∧ ((True) ∧ ((True) ∧ ((True) ∧ ((True) ∧ ((PureC Try.prog 80 [(.sl (.st (.pair (.int .u64) (.pair (.int .i64) .bool))) a_Cells), (.sl (.st (.pair (.int .u64) (.pair (.int .i64) .bool))) b_Cells)] (.bool y_2) []) ∧ ((True) ∧ ((True) ∧ (True))))))))))))))))))))))))))) := ⟨trivial, ⟨trivial, ⟨trivial, ⟨trivial, ⟨trivial, ⟨⟨trivial, c1⟩, ⟨trivial, ⟨trivial, ⟨trivial, ⟨trivial, ⟨trivial, ⟨trivial, ⟨⟨trivial, c3⟩, ⟨trivial, ⟨trivial, ⟨trivial, ⟨trivial, ⟨trivial, ⟨trivial, ⟨⟨trivial, c5⟩, ⟨trivial, ⟨trivial, ⟨trivial, ⟨trivial, ⟨F80_ok n a_Cells b_Cells y_2 hx7, ⟨trivial, ⟨trivial, trivial⟩⟩⟩⟩⟩⟩⟩⟩⟩⟩⟩⟩⟩⟩⟩⟩⟩⟩⟩⟩⟩⟩⟩⟩⟩⟩⟩
        refine TS.reg [.none, .none, .none, .none, .none, .dec true, .none, .none, .none, .none, .none, .none, .dec true, .none, .none, .none, .none, .none, .none, .dec true, .none, .none, .none, .none, (.call (.bool y_2) [])] ?_ ?_
        · apply prop_of ?_ hq
          kernel_rfl
        refine XS.then ?_
        refine TS.ret ?_
        obtain rfl : y_2 = r := Option.some.inj h
        exact XS.fin [] ((True) ∧ (True)) (by kernel_rfl) ⟨trivial, trivial⟩
      · have hq : (True) ∧ ((True) ∧ ((True) ∧ ((True) ∧ ((True) ∧ (((True) ∧ (Sh.beq (.st (.pair (.int .i64) (.int .i64))) (a_Put_At, a_Put_Bit) (b_Put_At, b_Put_Bit)) = true) ∧ ((True) ∧ ((True) ∧ ((True) ∧ ((True) ∧ ((True) ∧ ((True) ∧ (((True) ∧ (Sh.beq (.st (.pair (.int .i64) (.int .i64))) (a_Get_At, a_Get_Bit) (b_Get_At, b_Get_Bit)) = true) ∧ ((True) ∧ ((True) ∧ ((True) ∧ ((True) ∧ ((True) ∧ ((True) ∧ (((True) ∧ (a_Seen == b_Seen) = false) ∧ ((True) ∧ ((True) ∧ (True)))))))))))))))))))))) := ⟨trivial, ⟨trivial, ⟨trivial, ⟨trivial, ⟨trivial, ⟨⟨trivial, c1⟩, ⟨trivial, ⟨trivial, ⟨trivial, ⟨trivial, ⟨trivial, ⟨trivial, ⟨⟨trivial, c3⟩, ⟨trivial, ⟨trivial, ⟨trivial, ⟨trivial, ⟨trivial, ⟨trivial, ⟨⟨trivial, c6⟩, ⟨trivial, ⟨trivial, trivial⟩⟩⟩⟩⟩⟩⟩⟩⟩⟩⟩⟩⟩⟩⟩⟩⟩⟩⟩⟩⟩⟩
        refine TS.reg [.none, .none, .none, .none, .none, .dec true, .none, .none, .none, .none, .none, .none, .dec true, .none, .none, .none, .none, .none, .none, .dec false] ?_ ?_
        · apply prop_of ?_ hq
          kernel_rfl
        refine XS.then ?_
        refine TS.ret ?_
        obtain rfl : false = r := Option.some.inj h
        exact XS.fin [] ((True) ∧ (True)) (by kernel_rfl) ⟨trivial, trivial⟩
    · have hq : (True) ∧ ((True) ∧ ((True) ∧ ((True) ∧ ((True) ∧ (((True) ∧ (Sh.beq (.st (.pair (.int .i64) (.int .i64))) (a_Put_At, a_Put_Bit) (b_Put_At, b_Put_Bit)) = true) ∧ ((True) ∧ ((True) ∧ ((True) ∧ ((True) ∧ ((True) ∧ ((True) ∧ (((True) ∧ (Sh.beq (.st (.pair (.int .i64) (.int .i64))) (a_Get_At, a_Get_Bit) (b_Get_At, b_Get_Bit)) = false) ∧ ((True) ∧ ((True) ∧ ((True) ∧ ((True) ∧ (True))))))))))))))))) := ⟨trivial, ⟨trivial, ⟨trivial, ⟨trivial, ⟨trivial, ⟨⟨trivial, c1⟩, ⟨trivial, ⟨trivial, ⟨trivial, ⟨trivial, ⟨trivial, ⟨trivial, ⟨⟨trivial, c4⟩, ⟨trivial, ⟨trivial, ⟨trivial, ⟨trivial, trivial⟩⟩⟩⟩⟩⟩⟩⟩⟩⟩⟩⟩⟩⟩⟩⟩⟩
      refine TS.reg [.none, .none, .none, .none, .none, .dec true, .none, .none, .none, .none, .none, .none, .dec false] ?_ ?_
      · apply prop_of ?_ hq
        kernel_rfl
      refine XS.then ?_
      refine TS.ret ?_
      obtain rfl : false = r := Option.some.inj h
      exact XS.fin [] ((True) ∧ (True)) (by kernel_rfl) ⟨trivial, trivial⟩
  · have hq : (True) ∧ ((True) ∧ ((True) ∧ ((True) ∧ ((True) ∧ (((True) ∧ (Sh.beq (.st (.pair (.int .i64) (.int .i64))) (a_Put_At, a_Put_Bit) (b_Put_At, b_Put_Bit)) = false) ∧ ((True) ∧ ((True) ∧ ((True) ∧ ((True) ∧ ((True) ∧ ((True) ∧ (True)))))))))))) := ⟨trivial, ⟨trivial, ⟨trivial, ⟨trivial, ⟨trivial, ⟨⟨trivial, c2⟩, ⟨trivial, ⟨trivial, ⟨trivial, ⟨trivial, ⟨trivial, ⟨trivial, trivial⟩⟩⟩⟩⟩⟩⟩⟩⟩⟩⟩⟩
    refine TS.reg [.none, .none, .none, .none, .none, .dec false] ?_ ?_
    · apply prop_of ?_ hq
      kernel_rfl
    refine XS.then ?_
    refine TS.ret ?_
    obtain rfl : false = r := Option.some.inj h
    exact XS.fin [] ((True) ∧ (True)) (by kernel_rfl) ⟨trivial, trivial⟩

/-! plugtree/plugref.GoneOn -/
def F41 (n : Nat) (m_At : Int) (m_Bit : Int) (places : Int) : Option (Int × Int) := (bif (decide ((IntKind.wrap .i64 (m_At + (1 : Int))) < places)) then (some ((IntKind.wrap .i64 (m_At + (1 : Int))), m_Bit)) else (some ((0 : Int), (IntKind.wrap .i64 ((1 : Int) - m_Bit)))))
theorem F41_ok (n : Nat) (m_At : Int) (m_Bit : Int) (places : Int) (r : Int × Int) (h : F41 n m_At m_Bit places = some r) : PureC Try.prog 41 [(.st (.cons (.int .i64 m_At) (.int .i64 m_Bit))), (.int .i64 places)] (.st (.cons (.int .i64 r.1) (.int .i64 r.2))) [] := by
  refine PureC.mkS Try.func41 rfl rfl ?_
  intro w0 fz0 hfz
  replace h : (bif (decide ((IntKind.wrap .i64 (m_At + (1 : Int))) < places)) then (some ((IntKind.wrap .i64 (m_At + (1 : Int))), m_Bit)) else (some ((0 : Int), (IntKind.wrap .i64 ((1 : Int) - m_Bit))))) = some r := h
  refine TS.seq ?_
  have hq : (True) ∧ ((True) ∧ (True)) := ⟨trivial, ⟨trivial, trivial⟩⟩
  refine TS.reg [] ?_ ?_
  · apply prop_of ?_ hq
    kernel_rfl
  refine XS.then ?_
  refine TS.seq ?_
  refine TS.seq ?_
  have hq : (True) ∧ ((True) ∧ ((True) ∧ ((True) ∧ ((True) ∧ (True))))) := ⟨trivial, ⟨trivial, ⟨trivial, ⟨trivial, ⟨trivial, trivial⟩⟩⟩⟩⟩
  refine TS.reg [] ?_ ?_
  · apply prop_of ?_ hq
    kernel_rfl
  refine XS.then ?_
  rcases bif_some h with ⟨c1, h⟩ | ⟨c2, h⟩
  · refine TS.cond (decide ((IntKind.wrap .i64 (m_At + (1 : Int))) < places)) ?_ (fun e => ?_) (fun e => by rw [c1] at e; cases e)
    · kernel_rfl
    refine TS.seq ?_
    have hq : (True) ∧ ((True) ∧ ((True) ∧ ((True) ∧ ((True) ∧ (((True) ∧ ((True) ∧ (True))) ∧ ((True) ∧ (True))))))) := ⟨trivial, ⟨trivial, ⟨trivial, ⟨trivial, ⟨trivial, ⟨⟨trivial, ⟨trivial, trivial⟩⟩, ⟨trivial, trivial⟩⟩⟩⟩⟩⟩⟩
    refine TS.reg [] ?_ ?_
    · apply prop_of ?_ hq
      kernel_rfl
    refine XS.then ?_
    refine TS.ret ?_
    refine XS.passR ?_
    obtain rfl : ((IntKind.wrap .i64 (m_At + (1 : Int))), m_Bit) = r := Option.some.inj h
    exact XS.fin [] ((True) ∧ (True)) (by kernel_rfl) ⟨trivial, trivial⟩
  · refine TS.cond (decide ((IntKind.wrap .i64 (m_At + (1 : Int))) < places)) ?_ (fun e => by rw [c2] at e; cases e) (fun e => ?_)
    · kernel_rfl
    refine TS.skip ?_
    refine XS.then ?_
    refine TS.seq ?_
    have hq : (True) ∧ ((True) ∧ ((True) ∧ (((True) ∧ ((True) ∧ (True))) ∧ ((True) ∧ (True))))) := ⟨trivial, ⟨trivial, ⟨trivial, ⟨⟨trivial, ⟨trivial, trivial⟩⟩, ⟨trivial, trivial⟩⟩⟩⟩⟩
    refine TS.reg [] ?_ ?_
    · apply prop_of ?_ hq
      kernel_rfl
    refine XS.then ?_
    refine TS.ret ?_
    obtain rfl : ((0 : Int), (IntKind.wrap .i64 ((1 : Int) - m_Bit))) = r := Option.some.inj h
    exact XS.fin [] ((True) ∧ (True)) (by kernel_rfl) ⟨trivial, trivial⟩

/-! plugtree/pluglaw.RingGets -/
def F10_j3 (n : Nat) : Bool → Option Bool
  | x => (some x)
def F10_j4 (n : Nat) (r_Cells : List (Int × Int × Bool)) (r_Put_At : Int) (r_Put_Bit : Int) (r_Get_At : Int) (r_Get_Bit : Int) (r_Seen : Int) (y_2 : Int × Int × Int × Int × Int × Int × Bool × Int × (List (Int × Int × Bool))) (y_3 : Int × Int × Int × Int × Int × Int × (List (Int × Int × Bool))) : (Int × Int × Int) → Option Bool
  | (m5, m6, m6_2) => (bif (y_2.2.2.2.2.2.2.2.1 == (0 : Int)) then (bif (y_3.2.2.2.2.2.1 == (0 : Int)) then (bif (y_2.2.2.2.2.2.1 == m5) then (bif (y_2.2.2.2.2.2.2.1 == (!(Sh.beq (.st (.pair (.int .i64) (.int .i64))) (m6, m6_2) (r_Get_At, r_Get_Bit)))) then ((F38 n y_2.2.2.2.2.2.2.2.2 y_2.1 y_2.2.1 y_2.2.2.1 y_2.2.2.2.1 y_2.2.2.2.2.1 r_Cells r_Put_At r_Put_Bit m6 m6_2 r_Seen).bind fun y_7 => (bif y_7 then ((F38 n y_3.2.2.2.2.2.2 y_3.1 y_3.2.1 y_3.2.2.1 y_3.2.2.2.1 y_3.2.2.2.2.1 r_Cells r_Put_At r_Put_Bit r_Get_At r_Get_Bit r_Get_At).bind fun y_8 => (some y_8)) else (some false))) else (some false)) else (some false)) else (some false)) else (some false))
def F10 (n : Nat) (r_Cells : List (Int × Int × Bool)) (r_Put_At : Int) (r_Put_Bit : Int) (r_Get_At : Int) (r_Get_Bit : Int) (r_Seen : Int) : Option Bool := ((F39 n r_Cells r_Put_At r_Put_Bit r_Get_At r_Get_Bit r_Seen).bind fun y_2 => ((F40 n r_Cells r_Put_At r_Put_Bit r_Get_At r_Get_Bit r_Seen).bind fun y_3 => ((F37 n r_Cells r_Put_At r_Put_Bit r_Get_At r_Get_Bit r_Seen).bind fun y_4 => (bif (y_4 != (0 : Int)) then ((F38 n y_2.2.2.2.2.2.2.2.2 y_2.1 y_2.2.1 y_2.2.2.1 y_2.2.2.2.1 y_2.2.2.2.2.1 ([] : List (Int × Int × Bool)) (0 : Int) (0 : Int) (0 : Int) (0 : Int) (0 : Int)).bind fun y_5 => (bif y_5 then (bif (y_2.2.2.2.2.2.1 == (0 : Int)) then (bif (!y_2.2.2.2.2.2.2.1) then (bif (y_2.2.2.2.2.2.2.2.1 == y_4) then ((F38 n y_3.2.2.2.2.2.2 y_3.1 y_3.2.1 y_3.2.2.1 y_3.2.2.2.1 y_3.2.2.2.2.1 ([] : List (Int × Int × Bool)) (0 : Int) (0 : Int) (0 : Int) (0 : Int) (0 : Int)).bind fun y_6 => (bif y_6 then (F10_j3 n (y_3.2.2.2.2.2.1 == y_4)) else (F10_j3 n false))) else (F10_j3 n false)) else (F10_j3 n false)) else (F10_j3 n false)) else (F10_j3 n false))) else (bif inb r_Get_At r_Cells.length then (bif ((r_Cells.getD r_Get_At.toNat ((0 : Int), ((0 : Int), false))).2.1 == r_Get_Bit) then ((F41 n r_Get_At r_Get_Bit (IntKind.wrap .i64 (((r_Cells.length : Nat) : Int) - (1 : Int)))).bind fun y_9 => (F10_j4 n r_Cells r_Put_At r_Put_Bit r_Get_At r_Get_Bit r_Seen y_2 y_3 ((r_Cells.getD r_Get_At.toNat ((0 : Int), ((0 : Int), false))).1, y_9.1, y_9.2))) else (F10_j4 n r_Cells r_Put_At r_Put_Bit r_Get_At r_Get_Bit r_Seen y_2 y_3 ((0 : Int), r_Get_At, r_Get_Bit))) else none)))))
theorem F10_ok (n : Nat) (r_Cells : List (Int × Int × Bool)) (r_Put_At : Int) (r_Put_Bit : Int) (r_Get_At : Int) (r_Get_Bit : Int) (r_Seen : Int) (r : Bool) (h : F10 n r_Cells r_Put_At r_Put_Bit r_Get_At r_Get_Bit r_Seen = some r) : PureC Try.prog 10 [(.st (.cons (.sl (.st (.pair (.int .u64) (.pair (.int .i64) .bool))) r_Cells) (.cons (.st (.cons (.int .i64 r_Put_At) (.int .i64 r_Put_Bit))) (.cons (.st (.cons (.int .i64 r_Get_At) (.int .i64 r_Get_Bit))) (.int .i64 r_Seen)))))] (.bool r) [] := by
  refine PureC.mkS Try.func10 rfl rfl ?_
  intro w0 fz0 hfz
  replace h : ((F39 n r_Cells r_Put_At r_Put_Bit r_Get_At r_Get_Bit r_Seen).bind fun y_2 => ((F40 n r_Cells r_Put_At r_Put_Bit r_Get_At r_Get_Bit r_Seen).bind fun y_3 => ((F37 n r_Cells r_Put_At r_Put_Bit r_Get_At r_Get_Bit r_Seen).bind fun y_4 => (bif (y_4 != (0 : Int)) then ((F38 n y_2.2.2.2.2.2.2.2.2 y_2.1 y_2.2.1 y_2.2.2.1 y_2.2.2.2.1 y_2.2.2.2.2.1 ([] : List (Int × Int × Bool)) (0 : Int) (0 : Int) (0 : Int) (0 : Int) (0 : Int)).bind fun y_5 => (bif y_5 then (bif (y_2.2.2.2.2.2.1 == (0 : Int)) then (bif (!y_2.2.2.2.2.2.2.1) then (bif (y_2.2.2.2.2.2.2.2.1 == y_4) then ((F38 n y_3.2.2.2.2.2.2 y_3.1 y_3.2.1 y_3.2.2.1 y_3.2.2.2.1 y_3.2.2.2.2.1 ([] : List (Int × Int × Bool)) (0 : Int) (0 : Int) (0 : Int) (0 : Int) (0 : Int)).bind fun y_6 => (bif y_6 then (F10_j3 n (y_3.2.2.2.2.2.1 == y_4)) else (F10_j3 n false))) else (F10_j3 n false)) else (F10_j3 n false)) else (F10_j3 n false)) else (F10_j3 n false))) else (bif inb r_Get_At r_Cells.length then (bif ((r_Cells.getD r_Get_At.toNat ((0 : Int), ((0 : Int), false))).2.1 == r_Get_Bit) then ((F41 n r_Get_At r_Get_Bit (IntKind.wrap .i64 (((r_Cells.length : Nat) : Int) - (1 : Int)))).bind fun y_9 => (F10_j4 n r_Cells r_Put_At r_Put_Bit r_Get_At r_Get_Bit r_Seen y_2 y_3 ((r_Cells.getD r_Get_At.toNat ((0 : Int), ((0 : Int), false))).1, y_9.1, y_9.2))) else (F10_j4 n r_Cells r_Put_At r_Put_Bit r_Get_At r_Get_Bit r_Seen y_2 y_3 ((0 : Int), r_Get_At, r_Get_Bit))) else none))))) = some r := h
  refine TS.seq ?_
  have hq : (True) ∧ ((True) ∧ (True)) := ⟨trivial, ⟨trivial, trivial⟩⟩
  refine TS.reg [] ?_ ?_
  · apply prop_of ?_ hq
    kernel_rfl
  refine XS.then ?_
  refine TS.seq ?_
  obtain ⟨y_2, hx1, h⟩ := bind_some' h
  have hq : (True) ∧ ((PureC Try.prog 39 [(.st (.cons (.sl (.st (.pair (.int .u64) (.pair (.int .i64) .bool))) r_Cells) (.cons (.st (.cons (.int .i64 r_Put_At) (.int .i64 r_Put_Bit))) (.cons (.st (.cons (.int .i64 r_Get_At) (.int .i64 r_Get_Bit))) (.int .i64 r_Seen)))))] (.tup (.cons (.st (.cons (.row 0) (.cons (.st (.cons (.int .i64 y_2.1) (.int .i64 y_2.2.1))) (.cons (.st (.cons (.int .i64 y_2.2.2.1) (.int .i64 y_2.2.2.2.1))) (.int .i64 y_2.2.2.2.2.1))))) (.cons (.int .u64 y_2.2.2.2.2.2.1) (.cons (.bool y_2.2.2.2.2.2.2.1) (.cons (.int .i64 y_2.2.2.2.2.2.2.2.1) .nil))))) [(.row 75 (.st (.pair (.int .u64) (.pair (.int .i64) .bool))) y_2.2.2.2.2.2.2.2.2)]) ∧ ((True) ∧ ((True) ∧ ((True) ∧ ((True) ∧ ((True) ∧ ((True) ∧ ((True) ∧ ((True) ∧ ((True) ∧ ((True) ∧ (True)))))))))))) := ⟨trivial, ⟨F39_ok n r_Cells r_Put_At r_Put_Bit r_Get_At r_Get_Bit r_Seen y_2 hx1, ⟨trivial, ⟨trivial, ⟨trivial, ⟨trivial, ⟨trivial, ⟨trivial, ⟨trivial, ⟨trivial, ⟨trivial, ⟨trivial, trivial⟩⟩⟩⟩⟩⟩⟩⟩⟩⟩⟩⟩
  refine TS.reg [.none, (.call (.tup (.cons (.st (.cons (.row 0) (.cons (.st (.cons (.int .i64 y_2.1) (.int .i64 y_2.2.1))) (.cons (.st (.cons (.int .i64 y_2.2.2.1) (.int .i64 y_2.2.2.2.1))) (.int .i64 y_2.2.2.2.2.1))))) (.cons (.int .u64 y_2.2.2.2.2.2.1) (.cons (.bool y_2.2.2.2.2.2.2.1) (.cons (.int .i64 y_2.2.2.2.2.2.2.2.1) .nil))))) [(.row 75 (.st (.pair (.int .u64) (.pair (.int .i64) .bool))) y_2.2.2.2.2.2.2.2.2)])] ?_ ?_
  · apply prop_of ?_ hq
    kernel_rfl
  refine XS.then ?_
  refine TS.seq ?_
  obtain ⟨y_3, hx2, h⟩ := bind_some' h
  have hq : (True) ∧ ((PureC Try.prog 40 [(.st (.cons (.sl (.st (.pair (.int .u64) (.pair (.int .i64) .bool))) r_Cells) (.cons (.st (.cons (.int .i64 r_Put_At) (.int .i64 r_Put_Bit))) (.cons (.st (.cons (.int .i64 r_Get_At) (.int .i64 r_Get_Bit))) (.int .i64 r_Seen)))))] (.tup (.cons (.st (.cons (.row 0) (.cons (.st (.cons (.int .i64 y_3.1) (.int .i64 y_3.2.1))) (.cons (.st (.cons (.int .i64 y_3.2.2.1) (.int .i64 y_3.2.2.2.1))) (.int .i64 y_3.2.2.2.2.1))))) (.cons (.int .i64 y_3.2.2.2.2.2.1) .nil))) [(.row 75 (.st (.pair (.int .u64) (.pair (.int .i64) .bool))) y_3.2.2.2.2.2.2)]) ∧ ((True) ∧ ((True) ∧ ((True) ∧ ((True) ∧ ((True) ∧ ((True) ∧ (True)))))))) := ⟨trivial, ⟨F40_ok n r_Cells r_Put_At r_Put_Bit r_Get_At r_Get_Bit r_Seen y_3 hx2, ⟨trivial, ⟨trivial, ⟨trivial, ⟨trivial, ⟨trivial, ⟨trivial, trivial⟩⟩⟩⟩⟩⟩⟩⟩
  refine TS.reg [.none, (.call (.tup (.cons (.st (.cons (.row 0) (.cons (.st (.cons (.int .i64 y_3.1) (.int .i64 y_3.2.1))) (.cons (.st (.cons (.int .i64 y_3.2.2.1) (.int .i64 y_3.2.2.2.1))) (.int .i64 y_3.2.2.2.2.1))))) (.cons (.int .i64 y_3.2.2.2.2.2.1) .nil))) [(.row 75 (.st (.pair (.int .u64) (.pair (.int .i64) .bool))) y_3.2.2.2.2.2.2)])] ?_ ?_
  · apply prop_of ?_ hq
    kernel_rfl
  refine XS.then ?_
  refine TS.seq ?_
  refine TS.seq ?_
  obtain ⟨y_4, hx3, h⟩ := bind_some' h
  have hq : (True) ∧ ((PureC Try.prog 37 [(.st (.cons (.sl (.st (.pair (.int .u64) (.pair (.int .i64) .bool))) r_Cells) (.cons (.st (.cons (.int .i64 r_Put_At) (.int .i64 r_Put_Bit))) (.cons (.st (.cons (.int .i64 r_Get_At) (.int .i64 r_Get_Bit))) (.int .i64 r_Seen)))))] (.int .i64 y_4) []) ∧ ((True) ∧ (True))) := ⟨trivial, ⟨F37_ok n r_Cells r_Put_At r_Put_Bit r_Get_At r_Get_Bit r_Seen y_4 hx3, ⟨trivial, trivial⟩⟩⟩
  refine TS.reg [.none, (.call (.int .i64 y_4) [])] ?_ ?_
  · apply prop_of ?_ hq
    kernel_rfl
  refine XS.then ?_
  refine TS.seq ?_
  have hq : (True) ∧ ((True) ∧ (True)) := ⟨trivial, ⟨trivial, trivial⟩⟩
  refine TS.reg [] ?_ ?_
  · apply prop_of ?_ hq
    kernel_rfl
  refine XS.then ?_
  rcases bif_some h with ⟨c4, h⟩ | ⟨c5, h⟩
  · refine TS.cond (y_4 != (0 : Int)) ?_ (fun e => ?_) (fun e => by rw [c4] at e; cases e)
    · kernel_rfl
    refine TS.seq ?_
    refine TS.cut (D := Bool) (fun d => match d with | x => (mkTs 114 [(2, (.bool x))], [])) (fun d => F10_j3 n d = some r) ?_ ?_
    · rintro x h
      replace h : (some x) = some r := h
      refine XS.then ?_
      refine TS.ret ?_
      refine XS.passR ?_
      obtain rfl : x = r := Option.some.inj h
      exact XS.fin [] ((True) ∧ (True)) (by kernel_rfl) ⟨trivial, trivial⟩
    · obtain ⟨y_5, hx6, h⟩ := bind_some' h
      rcases bif_some h with ⟨c7, h⟩ | ⟨c8, h⟩
      · rcases bif_some h with ⟨c9, h⟩ | ⟨c10, h⟩
        · rcases bif_some h with ⟨c11, h⟩ | ⟨c12, h⟩
          · rcases bif_some h with ⟨c13, h⟩ | ⟨c14, h⟩
            · obtain ⟨y_6, hx15, h⟩ := bind_some' h
              rcases bif_some h with ⟨c16, h⟩ | ⟨c17, h⟩
              · have hq : (True) ∧ ((True) ∧ (((((True) ∧ (((True) ∧ (True)) ∧ (((True) ∧ (True)) ∧ (True)))) ∧ (((True) ∧ (((True) ∧ (True)) ∧ (((True) ∧ (True)) ∧ (True)))) ∧ (True))) ∧ PureC Try.prog 38 [(.st (.cons (.sl (.st (.pair (.int .u64) (.pair (.int .i64) .bool))) y_2.2.2.2.2.2.2.2.2) (.cons (.st (.cons (.int .i64 y_2.1) (.int .i64 y_2.2.1))) (.cons (.st (.cons (.int .i64 y_2.2.2.1) (.int .i64 y_2.2.2.2.1))) (.int .i64 y_2.2.2.2.2.1))))), (.st (.cons .nilS (.cons (.st (.cons (.int .i64 (0 : Int)) (.int .i64 (0 : Int)))) (.cons (.st (.cons (.int .i64 (0 : Int)) (.int .i64 (0 : Int)))) (.int .i64 (0 : Int))))))] (.bool y_5) []) ∧ (((True) ∧ y_5 = true) ∧ ((True) ∧ ((True) ∧ ((True) ∧ (((True) ∧ (y_2.2.2.2.2.2.1 == (0 : Int)) = true) ∧ ((True) ∧ ((True) ∧ ((True) ∧ (((True) ∧ (!y_2.2.2.2.2.2.2.1) = true) ∧ ((True) ∧ ((True) ∧ ((True) ∧ ((True) ∧ (((True) ∧ (y_2.2.2.2.2.2.2.2.1 == y_4) = true) ∧ ((True) ∧ ((True) ∧ (((((True) ∧ (((True) ∧ (True)) ∧ (((True) ∧ (True)) ∧ (True)))) ∧ (((True) ∧ (((True) ∧ (True)) ∧ (((True) ∧ (True)) ∧ (True)))) ∧ (True))) ∧ PureC Try.prog 38 [(.st (.cons (.sl (.st (.pair (.int .u64) (.pair (.int .i64) .bool))) y_3.2.2.2.2.2.2) (.cons (.st (.cons (.int .i64 y_3.1) (.int .i64 y_3.2.1))) (.cons (.st (.cons (.int .i64 y_3.2.2.1) (.int .i64 y_3.2.2.2.1))) (.int .i64 y_3.2.2.2.2.1))))), (.st (.cons .nilS (.cons (.st (.cons (.int .i64 (0 : Int)) (.int .i64 (0 : Int)))) (.cons (.st (.cons (.int .i64 (0 : Int)) (.int .i64 (0 : Int)))) (.int .i64 (0 : Int))))))] (.bool y_6) []) ∧ ((True) ∧ (((True) ∧ y_6 = true) ∧ ((True) ∧ ((True) ∧ ((True) ∧ ((True) ∧ ((True) ∧ (True))))))))))))))))))))))))))) := ⟨trivial, ⟨trivial, ⟨⟨⟨⟨trivial, ⟨⟨trivial, trivial⟩, ⟨⟨trivial, trivial⟩, trivial⟩⟩⟩, ⟨⟨trivial, ⟨⟨trivial, trivial⟩, ⟨⟨trivial, trivial⟩, trivial⟩⟩⟩, trivial⟩⟩, PureC.nilArg 1 [false] (.st (.pair (.int .u64) (.pair (.int .i64) .bool))) (F38_ok n y_2.2.2.2.2.2.2.2.2 y_2.1 y_2.2.1 y_2.2.2.1 y_2.2.2.2.1 y_2.2.2.2.2.1 ([] : List (Int × Int × Bool)) (0 : Int) (0 : Int) (0 : Int) (0 : Int) (0 : Int) y_5 hx6)⟩, ⟨⟨trivial, c7⟩, ⟨trivial, ⟨trivial, ⟨trivial, ⟨⟨trivial, c9⟩, ⟨trivial, ⟨trivial, ⟨trivial, ⟨⟨trivial, c11⟩, ⟨trivial, ⟨trivial, ⟨trivial, ⟨trivial, ⟨⟨trivial, c13⟩, ⟨trivial, ⟨trivial, ⟨⟨⟨⟨trivial, ⟨⟨trivial, trivial⟩, ⟨⟨trivial, trivial⟩, trivial⟩⟩⟩, ⟨⟨trivial, ⟨⟨trivial, trivial⟩, ⟨⟨trivial, trivial⟩, trivial⟩⟩⟩, trivial⟩⟩, PureC.nilArg 1 [false] (.st (.pair (.int .u64) (.pair (.int .i64) .bool))) (F38_ok n y_3.2.2.2.2.2.2 y_3.1 y_3.2.1 y_3.2.2.1 y_3.2.2.2.1 y_3.2.2.2.2.1 ([] : List (Int × Int × Bool)) (0 : Int) (0 : Int) (0 : Int) (0 : Int) (0 : Int) y_6 hx15)⟩, ⟨trivial, ⟨⟨trivial, c16⟩, ⟨trivial, ⟨trivial, ⟨trivial, ⟨trivial, ⟨trivial, trivial⟩⟩⟩⟩⟩⟩⟩⟩⟩⟩⟩⟩⟩⟩⟩⟩⟩⟩⟩⟩⟩⟩⟩⟩⟩⟩⟩
                refine TS.reg [.none, .none, (.call (.bool y_5) []), .dec true, .none, .none, .none, .dec true, .none, .none, .none, .dec true, .none, .none, .none, .none, .dec true, .none, .none, (.call (.bool y_6) []), .none, .dec true] ?_ ?_
                · apply prop_of ?_ hq
                  kernel_rfl
                refine XS.reAny [] (mkMask 114 [2]) (y_3.2.2.2.2.2.1 == y_4) h ?_
                kernel_rfl
              · have hq : (True) ∧ ((True) ∧ (((((True) ∧ (((True) ∧ (True)) ∧ (((True) ∧ (True)) ∧ (True)))) ∧ (((True) ∧ (((True) ∧ (True)) ∧ (((True) ∧ (True)) ∧ (True)))) ∧ (True))) ∧ PureC Try.prog 38 [(.st (.cons (.sl (.st (.pair (.int .u64) (.pair (.int .i64) .bool))) y_2.2.2.2.2.2.2.2.2) (.cons (.st (.cons (.int .i64 y_2.1) (.int .i64 y_2.2.1))) (.cons (.st (.cons (.int .i64 y_2.2.2.1) (.int .i64 y_2.2.2.2.1))) (.int .i64 y_2.2.2.2.2.1))))), (.st (.cons .nilS (.cons (.st (.cons (.int .i64 (0 : Int)) (.int .i64 (0 : Int)))) (.cons (.st (.cons (.int .i64 (0 : Int)) (.int .i64 (0 : Int)))) (.int .i64 (0 : Int))))))] (.bool y_5) []) ∧ (((True) ∧ y_5 = true) ∧ ((True) ∧ ((True) ∧ ((True) ∧ (((True) ∧ (y_2.2.2.2.2.2.1 == (0 : Int)) = true) ∧ ((True) ∧ ((True) ∧ ((True) ∧ (((True) ∧ (!y_2.2.2.2.2.2.2.1) = true) ∧ ((True) ∧ ((True) ∧ ((True) ∧ ((True) ∧ (((True) ∧ (y_2.2.2.2.2.2.2.2.1 == y_4) = true) ∧ ((True) ∧ ((True) ∧ (((((True) ∧ (((True) ∧ (True)) ∧ (((True) ∧ (True)) ∧ (True)))) ∧ (((True) ∧ (((True) ∧ (True)) ∧ (((True) ∧ (True)) ∧ (True)))) ∧ (True))) ∧ PureC Try.prog 38 [(.st (.cons (.sl (.st (.pair (.int .u64) (.pair (.int .i64) .bool))) y_3.2.2.2.2.2.2) (.cons (.st (.cons (.int .i64 y_3.1) (.int .i64 y_3.2.1))) (.cons (.st (.cons (.int .i64 y_3.2.2.1) (.int .i64 y_3.2.2.2.1))) (.int .i64 y_3.2.2.2.2.1))))), (.st (.cons .nilS (.cons (.st (.cons (.int .i64 (0 : Int)) (.int .i64 (0 : Int)))) (.cons (.st (.cons (.int .i64 (0 : Int)) (.int .i64 (0 : Int)))) (.int .i64 (0 : Int))))))] (.bool y_6) []) ∧ ((True) ∧ (((True) ∧ y_6 = false) ∧ ((True) ∧ ((True) ∧ (True)))))))))))))))))))))))) := ⟨trivial, ⟨trivial, ⟨⟨⟨⟨trivial, ⟨⟨trivial, trivial⟩, ⟨⟨trivial, trivial⟩, trivial⟩⟩⟩, ⟨⟨trivial, ⟨⟨trivial, trivial⟩, ⟨⟨trivial, trivial⟩, trivial⟩⟩⟩, trivial⟩⟩, PureC.nilArg 1 [false] (.st (.pair (.int .u64) (.pair (.int .i64) .bool))) (F38_ok n y_2.2.2.2.2.2.2.2.2 y_2.1 y_2.2.1 y_2.2.2.1 y_2.2.2.2.1 y_2.2.2.2.2.1 ([] : List (Int × Int × Bool)) (0 : Int) (0 : Int) (0 : Int) (0 : Int) (0 : Int) y_5 hx6)⟩, ⟨⟨trivial, c7⟩, ⟨trivial, ⟨trivial, ⟨trivial, ⟨⟨trivial, c9⟩, ⟨trivial, ⟨trivial, ⟨trivial, ⟨⟨trivial, c11⟩, ⟨trivial, ⟨trivial, ⟨trivial, ⟨trivial, ⟨⟨trivial, c13⟩, ⟨trivial, ⟨trivial, ⟨⟨⟨⟨trivial, ⟨⟨trivial, trivial⟩, ⟨⟨trivial, trivial⟩, trivial⟩⟩⟩, ⟨⟨trivial, ⟨⟨trivial, trivial⟩, ⟨⟨trivial, trivial⟩, trivial⟩⟩⟩, trivial⟩⟩, PureC.nilArg 1 [false] (.st (.pair (.int .u64) (.pair (.int .i64) .bool))) (F38_ok n y_3.2.2.2.2.2.2 y_3.1 y_3.2.1 y_3.2.2.1 y_3.2.2.2.1 y_3.2.2.2.2.1 ([] : List (Int × Int × Bool)) (0 : Int) (0 : Int) (0 : Int) (0 : Int) (0 : Int) y_6 hx15)⟩, ⟨trivial, ⟨⟨trivial, c17⟩, ⟨trivial, ⟨trivial, trivial⟩⟩⟩⟩⟩⟩⟩⟩⟩⟩⟩⟩⟩⟩⟩⟩⟩⟩⟩⟩⟩⟩⟩⟩
                refine TS.reg [.none, .none, (.call (.bool y_5) []), .dec true, .none, .none, .none, .dec true, .none, .none, .none, .dec true, .none, .none, .none, .none, .dec true, .none, .none, (.call (.bool y_6) []), .none, .dec false] ?_ ?_
                · apply prop_of ?_ hq
                  kernel_rfl
                refine XS.reAny [] (mkMask 114 [2]) false h ?_
                kernel_rfl
            · have hq : (True) ∧ ((True) ∧ (((((True) ∧ (((True) ∧ (True)) ∧ (((True) ∧ (True)) ∧ (True)))) ∧ (((True) ∧ (((True) ∧ (True)) ∧ (((True) ∧ (True)) ∧ (True)))) ∧ (True))) ∧ PureC Try.prog 38 [(.st (.cons (.sl (.st (.pair (.int .u64) (.pair (.int .i64) .bool))) y_2.2.2.2.2.2.2.2.2) (.cons (.st (.cons (.int .i64 y_2.1) (.int .i64 y_2.2.1))) (.cons (.st (.cons (.int .i64 y_2.2.2.1) (.int .i64 y_2.2.2.2.1))) (.int .i64 y_2.2.2.2.2.1))))), (.st (.cons .nilS (.cons (.st (.cons (.int .i64 (0 : Int)) (.int .i64 (0 : Int)))) (.cons (.st (.cons (.int .i64 (0 : Int)) (.int .i64 (0 : Int)))) (.int .i64 (0 : Int))))))] (.bool y_5) []) ∧ (((True) ∧ y_5 = true) ∧ ((True) ∧ ((True) ∧ ((True) ∧ (((True) ∧ (y_2.2.2.2.2.2.1 == (0 : Int)) = true) ∧ ((True) ∧ ((True) ∧ ((True) ∧ (((True) ∧ (!y_2.2.2.2.2.2.2.1) = true) ∧ ((True) ∧ ((True) ∧ ((True) ∧ ((True) ∧ (((True) ∧ (y_2.2.2.2.2.2.2.2.1 == y_4) = false) ∧ ((True) ∧ ((True) ∧ ((True) ∧ ((True) ∧ (True))))))))))))))))))))) := ⟨trivial, ⟨trivial, ⟨⟨⟨⟨trivial, ⟨⟨trivial, trivial⟩, ⟨⟨trivial, trivial⟩, trivial⟩⟩⟩, ⟨⟨trivial, ⟨⟨trivial, trivial⟩, ⟨⟨trivial, trivial⟩, trivial⟩⟩⟩, trivial⟩⟩, PureC.nilArg 1 [false] (.st (.pair (.int .u64) (.pair (.int .i64) .bool))) (F38_ok n y_2.2.2.2.2.2.2.2.2 y_2.1 y_2.2.1 y_2.2.2.1 y_2.2.2.2.1 y_2.2.2.2.2.1 ([] : List (Int × Int × Bool)) (0 : Int) (0 : Int) (0 : Int) (0 : Int) (0 : Int) y_5 hx6)⟩, ⟨⟨trivial, c7⟩, ⟨trivial, ⟨trivial, ⟨trivial, ⟨⟨trivial, c9⟩, ⟨trivial, ⟨trivial, ⟨trivial, ⟨⟨trivial, c11⟩, ⟨trivial, ⟨trivial, ⟨trivial, ⟨trivial, ⟨⟨trivial, c14⟩, ⟨trivial, ⟨trivial, ⟨trivial, ⟨trivial, trivial⟩⟩⟩⟩⟩⟩⟩⟩⟩⟩⟩⟩⟩⟩⟩⟩⟩⟩⟩⟩⟩
              refine TS.reg [.none, .none, (.call (.bool y_5) []), .dec true, .none, .none, .none, .dec true, .none, .none, .none, .dec true, .none, .none, .none, .none, .dec false] ?_ ?_
              · apply prop_of ?_ hq
                kernel_rfl
              refine XS.reAny [] (mkMask 114 [2]) false h ?_
              kernel_rfl
          · have hq : (True) ∧ ((True) ∧ (((((True) ∧ (((True) ∧ (True)) ∧ (((True) ∧ (True)) ∧ (True)))) ∧ (((True) ∧ (((True) ∧ (True)) ∧ (((True) ∧ (True)) ∧ (True)))) ∧ (True))) ∧ PureC Try.prog 38 [(.st (.cons (.sl (.st (.pair (.int .u64) (.pair (.int .i64) .bool))) y_2.2.2.2.2.2.2.2.2) (.cons (.st (.cons (.int .i64 y_2.1) (.int .i64 y_2.2.1))) (.cons (.st (.cons (.int .i64 y_2.2.2.1) (.int .i64 y_2.2.2.2.1))) (.int .i64 y_2.2.2.2.2.1))))), (.st (.cons .nilS (.cons (.st (.cons (.int .i64 (0 : Int)) (.int .i64 (0 : Int)))) (.cons (.st (.cons (.int .i64 (0 : Int)) (.int .i64 (0 : Int)))) (.int .i64 (0 : Int))))))] (.bool y_5) []) ∧ (((True) ∧ y_5 = true) ∧ ((True) ∧ ((True) ∧ ((True) ∧ (((True) ∧ (y_2.2.2.2.2.2.1 == (0 : Int)) = true) ∧ ((True) ∧ ((True) ∧ ((True) ∧ (((True) ∧ (!y_2.2.2.2.2.2.2.1) = false) ∧ ((True) ∧ ((True) ∧ ((True) ∧ ((True) ∧ ((True) ∧ ((True) ∧ (True)))))))))))))))))) := ⟨trivial, ⟨trivial, ⟨⟨⟨⟨trivial, ⟨⟨trivial, trivial⟩, ⟨⟨trivial, trivial⟩, trivial⟩⟩⟩, ⟨⟨trivial, ⟨⟨trivial, trivial⟩, ⟨⟨trivial, trivial⟩, trivial⟩⟩⟩, trivial⟩⟩, PureC.nilArg 1 [false] (.st (.pair (.int .u64) (.pair (.int .i64) .bool))) (F38_ok n y_2.2.2.2.2.2.2.2.2 y_2.1 y_2.2.1 y_2.2.2.1 y_2.2.2.2.1 y_2.2.2.2.2.1 ([] : List (Int × Int × Bool)) (0 : Int) (0 : Int) (0 : Int) (0 : Int) (0 : Int) y_5 hx6)⟩, ⟨⟨trivial, c7⟩, ⟨trivial, ⟨trivial, ⟨trivial, ⟨⟨trivial, c9⟩, ⟨trivial, ⟨trivial, ⟨trivial, ⟨⟨trivial, c12⟩, ⟨trivial, ⟨trivial, ⟨trivial, ⟨trivial, ⟨trivial, ⟨trivial, trivial⟩⟩⟩⟩⟩⟩⟩⟩⟩⟩⟩⟩⟩⟩⟩⟩⟩⟩
            refine TS.reg [.none, .none, (.call (.bool y_5) []), .dec true, .none, .none, .none, .dec true, .none, .none, .none, .dec false] ?_ ?_
            · apply prop_of ?_ hq
              kernel_rfl
            refine XS.reAny [] (mkMask 114 [2]) false h ?_
            kernel_rfl
        · have hq : (True) ∧ ((True) ∧ (((((True) ∧ (((True) ∧ (True)) ∧ (((True) ∧ (True)) ∧ (True)))) ∧ (((True) ∧ (((True) ∧ (True)) ∧ (((True) ∧ (True)) ∧ (True)))) ∧ (True))) ∧ PureC Try.prog 38 [(.st (.cons (.sl (.st (.pair (.int .u64) (.pair (.int .i64) .bool))) y_2.2.2.2.2.2.2.2.2) (.cons (.st (.cons (.int .i64 y_2.1) (.int .i64 y_2.2.1))) (.cons (.st (.cons (.int .i64 y_2.2.2.1) (.int .i64 y_2.2.2.2.1))) (.int .i64 y_2.2.2.2.2.1))))), (.st (.cons .nilS (.cons (.st (.cons (.int .i64 (0 : Int)) (.int .i64 (0 : Int)))) (.cons (.st (.cons (.int .i64 (0 : Int)) (.int .i64 (0 : Int)))) (.int .i64 (0 : Int))))))] (.bool y_5) []) ∧ (((True) ∧ y_5 = true) ∧ ((True) ∧ ((True) ∧ ((True) ∧ (((True) ∧ (y_2.2.2.2.2.2.1 == (0 : Int)) = false) ∧ ((True) ∧ ((True) ∧ ((True) ∧ ((True) ∧ ((True) ∧ ((True) ∧ ((True) ∧ ((True) ∧ (True)))))))))))))))) := ⟨trivial, ⟨trivial, ⟨⟨⟨⟨trivial, ⟨⟨trivial, trivial⟩, ⟨⟨trivial, trivial⟩, trivial⟩⟩⟩, ⟨⟨trivial, ⟨⟨trivial, trivial⟩, ⟨⟨trivial, trivial⟩, trivial⟩⟩⟩, trivial⟩⟩, PureC.nilArg 1 [false] (.st (.pair (.int .u64) (.pair (.int .i64) .bool))) (F38_ok n y_2.2.2.2.2.2.2.2.2 y_2.1 y_2.2.1 y_2.2.2.1 y_2.2.2.2.1 y_2.2.2.2.2.1 ([] : List (Int × Int × Bool)) (0 : Int) (0 : Int) (0 : Int) (0 : Int) (0 : Int) y_5 hx6)⟩, ⟨⟨trivial, c7⟩, ⟨trivial, ⟨trivial, ⟨trivial, ⟨⟨trivial, c10⟩, ⟨trivial, ⟨trivial, ⟨trivial, ⟨trivial, ⟨trivial, ⟨trivial, ⟨trivial, ⟨trivial, trivial⟩⟩⟩⟩⟩⟩⟩⟩⟩⟩⟩⟩⟩⟩⟩⟩
          refine TS.reg [.none, .none, (.call (.bool y_5) []), .dec true, .none, .none, .none, .dec false] ?_ ?_
          · apply prop_of ?_ hq
            kernel_rfl
          refine XS.reAny [] (mkMask 114 [2]) false h ?_
          kernel_rfl
      · have hq : (True) ∧ ((True) ∧ (((((True) ∧ (((True) ∧ (True)) ∧ (((True) ∧ (True)) ∧ (True)))) ∧ (((True) ∧ (((True) ∧ (True)) ∧ (((True) ∧ (True)) ∧ (True)))) ∧ (True))) ∧ PureC Try.prog 38 [(.st (.cons (.sl (.st (.pair (.int .u64) (.pair (.int .i64) .bool))) y_2.2.2.2.2.2.2.2.2) (.cons (.st (.cons (.int .i64 y_2.1) (.int .i64 y_2.2.1))) (.cons (.st (.cons (.int .i64 y_2.2.2.1) (.int .i64 y_2.2.2.2.1))) (.int .i64 y_2.2.2.2.2.1))))), (.st (.cons .nilS (.cons (.st (.cons (.int .i64 (0 : Int)) (.int .i64 (0 : Int)))) (.cons (.st (.cons (.int .i64 (0 : Int)) (.int .i64 (0 : Int)))) (.int .i64 (0 : Int))))))] (.bool y_5) []) ∧ (((True) ∧ y_5 = false) ∧ ((True) ∧ ((True) ∧ ((True) ∧ ((True) ∧ ((True) ∧ ((True) ∧ ((True) ∧ ((True) ∧ ((True) ∧ ((True) ∧ (True)))))))))))))) := ⟨trivial, ⟨trivial, ⟨⟨⟨⟨trivial, ⟨⟨trivial, trivial⟩, ⟨⟨trivial, trivial⟩, trivial⟩⟩⟩, ⟨⟨trivial, ⟨⟨trivial, trivial⟩, ⟨⟨trivial, trivial⟩, trivial⟩⟩⟩, trivial⟩⟩, PureC.nilArg 1 [false] (.st (.pair (.int .u64) (.pair (.int .i64) .bool))) (F38_ok n y_2.2.2.2.2.2.2.2.2 y_2.1 y_2.2.1 y_2.2.2.1 y_2.2.2.2.1 y_2.2.2.2.2.1 ([] : List (Int × Int × Bool)) (0 : Int) (0 : Int) (0 : Int) (0 : Int) (0 : Int) y_5 hx6)⟩, ⟨⟨trivial, c8⟩, ⟨trivial, ⟨trivial, ⟨trivial, ⟨trivial, ⟨trivial, ⟨trivial, ⟨trivial, ⟨trivial, ⟨trivial, ⟨trivial, trivial⟩⟩⟩⟩⟩⟩⟩⟩⟩⟩⟩⟩⟩⟩
        refine TS.reg [.none, .none, (.call (.bool y_5) []), .dec false] ?_ ?_
        · apply prop_of ?_ hq
          kernel_rfl
        refine XS.reAny [] (mkMask 114 [2]) false h ?_
        kernel_rfl
  · refine TS.cond (y_4 != (0 : Int)) ?_ (fun e => by rw [c5] at e; cases e) (fun e => ?_)
    · kernel_rfl
    refine TS.skip ?_
    refine XS.then ?_
    refine TS.seq ?_
    obtain ⟨t18, h⟩ := test_some h
    have hq : (True) ∧ ((True) ∧ ((True) ∧ ((True) ∧ ((True) ∧ ((inR r_Get_At r_Cells.length) ∧ ((True) ∧ ((True) ∧ ((True) ∧ (True))))))))) := ⟨trivial, ⟨trivial, ⟨trivial, ⟨trivial, ⟨trivial, ⟨inb_ok t18, ⟨trivial, ⟨trivial, ⟨trivial, trivial⟩⟩⟩⟩⟩⟩⟩⟩⟩
    refine TS.reg [] ?_ ?_
    · apply prop_of ?_ hq
      kernel_rfl
    refine XS.then ?_
    refine TS.seq ?_
    have hq : (True) ∧ ((True) ∧ ((True) ∧ (True))) := ⟨trivial, ⟨trivial, ⟨trivial, trivial⟩⟩⟩
    refine TS.reg [] ?_ ?_
    · apply prop_of ?_ hq
      kernel_rfl
    refine XS.then ?_
    refine TS.seq ?_
    refine TS.seq ?_
    have hq : (True) ∧ ((True) ∧ ((True) ∧ ((True) ∧ ((True) ∧ ((True) ∧ (True)))))) := ⟨trivial, ⟨trivial, ⟨trivial, ⟨trivial, ⟨trivial, ⟨trivial, trivial⟩⟩⟩⟩⟩⟩
    refine TS.reg [] ?_ ?_
    · apply prop_of ?_ hq
      kernel_rfl
    refine XS.then ?_
    refine TS.cut (D := Int × Int × Int) (fun d => match d with | (m5, m6, m6_2) => (mkTs 114 [(1, (.ptr 0 [])), (3, (.ptr 1 [])), (4, (.int .u64 y_2.2.2.2.2.2.1)), (5, (.bool y_2.2.2.2.2.2.2.1)), (6, (.int .i64 y_2.2.2.2.2.2.2.2.1)), (7, (.ptr 3 [])), (8, (.int .i64 y_3.2.2.2.2.2.1)), (10, (.ptr 5 [])), (11, (.ptr 6 []))], [(.box 65 (.st (.cons (.sl (.st (.pair (.int .u64) (.pair (.int .i64) .bool))) r_Cells) (.cons (.st (.cons (.int .i64 r_Put_At) (.int .i64 r_Put_Bit))) (.cons (.st (.cons (.int .i64 r_Get_At) (.int .i64 r_Get_Bit))) (.int .i64 r_Seen)))))), (.box 65 (.st (.cons (.row 2) (.cons (.st (.cons (.int .i64 y_2.1) (.int .i64 y_2.2.1))) (.cons (.st (.cons (.int .i64 y_2.2.2.1) (.int .i64 y_2.2.2.2.1))) (.int .i64 y_2.2.2.2.2.1)))))), (.row 75 (.st (.pair (.int .u64) (.pair (.int .i64) .bool))) y_2.2.2.2.2.2.2.2.2), (.box 65 (.st (.cons (.row 4) (.cons (.st (.cons (.int .i64 y_3.1) (.int .i64 y_3.2.1))) (.cons (.st (.cons (.int .i64 y_3.2.2.1) (.int .i64 y_3.2.2.2.1))) (.int .i64 y_3.2.2.2.2.1)))))), (.row 75 (.st (.pair (.int .u64) (.pair (.int .i64) .bool))) y_3.2.2.2.2.2.2), (.box 75 (.st (.cons (.int .u64 m5) (.cons (.int .i64 (r_Cells.getD r_Get_At.toNat ((0 : Int), ((0 : Int), false))).2.1) (.bool (r_Cells.getD r_Get_At.toNat ((0 : Int), ((0 : Int), false))).2.2))))), (.box 65 (.st (.cons (.sl (.st (.pair (.int .u64) (.pair (.int .i64) .bool))) r_Cells) (.cons (.st (.cons (.int .i64 r_Put_At) (.int .i64 r_Put_Bit))) (.cons (.st (.cons (.int .i64 m6) (.int .i64 m6_2))) (.int .i64 r_Seen))))))])) (fun d => F10_j4 n r_Cells r_Put_At r_Put_Bit r_Get_At r_Get_Bit r_Seen y_2 y_3 d = some r) ?_ ?_
    · rintro ⟨m5, m6, m6_2⟩ h
      replace h : (bif (y_2.2.2.2.2.2.2.2.1 == (0 : Int)) then (bif (y_3.2.2.2.2.2.1 == (0 : Int)) then (bif (y_2.2.2.2.2.2.1 == m5) then (bif (y_2.2.2.2.2.2.2.1 == (!(Sh.beq (.st (.pair (.int .i64) (.int .i64))) (m6, m6_2) (r_Get_At, r_Get_Bit)))) then ((F38 n y_2.2.2.2.2.2.2.2.2 y_2.1 y_2.2.1 y_2.2.2.1 y_2.2.2.2.1 y_2.2.2.2.2.1 r_Cells r_Put_At r_Put_Bit m6 m6_2 r_Seen).bind fun y_7 => (bif y_7 then ((F38 n y_3.2.2.2.2.2.2 y_3.1 y_3.2.1 y_3.2.2.1 y_3.2.2.2.1 y_3.2.2.2.2.1 r_Cells r_Put_At r_Put_Bit r_Get_At r_Get_Bit r_Get_At).bind fun y_8 => (some y_8)) else (some false))) else (some false)) else (some false)) else (some false)) else (some false)) = some r := h
      refine XS.then ?_
      refine TS.seq ?_
      have hq : (True) ∧ ((True) ∧ ((True) ∧ (True))) := ⟨trivial, ⟨trivial, ⟨trivial, trivial⟩⟩⟩
      refine TS.reg [] ?_ ?_
      · apply prop_of ?_ hq
        kernel_rfl
      refine XS.then ?_
      refine TS.seq ?_
      have hq : (True) ∧ ((True) ∧ ((True) ∧ ((True) ∧ ((True) ∧ (True))))) := ⟨trivial, ⟨trivial, ⟨trivial, ⟨trivial, ⟨trivial, trivial⟩⟩⟩⟩⟩
      refine TS.reg [] ?_ ?_
      · apply prop_of ?_ hq
        kernel_rfl
      refine XS.then ?_
      refine TS.seq ?_
      rcases bif_some h with ⟨c19, h⟩ | ⟨c20, h⟩
      · rcases bif_some h with ⟨c21, h⟩ | ⟨c22, h⟩
        · rcases bif_some h with ⟨c23, h⟩ | ⟨c24, h⟩
          · rcases bif_some h with ⟨c25, h⟩ | ⟨c26, h⟩
            · obtain ⟨y_7, hx27, h⟩ := bind_some' h
              rcases bif_some h with ⟨c28, h⟩ | ⟨c29, h⟩
              · obtain ⟨y_8, hx30, h⟩ := bind_some' h
                have hq : (True) ∧ ((True) ∧ (((True) ∧ (y_2.2.2.2.2.2.2.2.1 == (0 : Int)) = true) ∧ ((True) ∧ ((True) ∧ ((True) ∧ (((True) ∧ (y_3.2.2.2.2.2.1 == (0 : Int)) = true) ∧ ((True) ∧ ((True) ∧ ((True) ∧ ((True) ∧ ((True) ∧ (((True) ∧ (y_2.2.2.2.2.2.1 == m5) = true) ∧ ((True) ∧ ((True) ∧ ((True) ∧ ((True) ∧ ((True) ∧ ((True) ∧ ((True) ∧ ((True) ∧ (((True) ∧ (y_2.2.2.2.2.2.2.1 == (!(Sh.beq (.st (.pair (.int .i64) (.int .i64))) (m6, m6_2) (r_Get_At, r_Get_Bit)))) = true) ∧ ((True) ∧ ((True) ∧ (((((True) ∧ (((True) ∧ (True)) ∧ (((True) ∧ (True)) ∧ (True)))) ∧ (((True) ∧ (((True) ∧ (True)) ∧ (((True) ∧ (True)) ∧ (True)))) ∧ (True))) ∧ PureC Try.prog 38 [(.st (.cons (.sl (.st (.pair (.int .u64) (.pair (.int .i64) .bool))) y_2.2.2.2.2.2.2.2.2) (.cons (.st (.cons (.int .i64 y_2.1) (.int .i64 y_2.2.1))) (.cons (.st (.cons (.int .i64 y_2.2.2.1) (.int .i64 y_2.2.2.2.1))) (.int .i64 y_2.2.2.2.2.1))))), (.st (.cons (.sl (.st (.pair (.int .u64) (.pair (.int .i64) .bool))) r_Cells) (.cons (.st (.cons (.int .i64 r_Put_At) (.int .i64 r_Put_Bit))) (.cons (.st (.cons (.int .i64 m6) (.int .i64 m6_2))) (.int .i64 r_Seen)))))] (.bool y_7) []) ∧ ((True) ∧ (((True) ∧ y_7 = true) ∧ ((True) ∧ ((True) ∧ (((((True) ∧ (((True) ∧ (True)) ∧ (((True) ∧ (True)) ∧ (True)))) ∧ (((True) ∧ (((True) ∧ (True)) ∧ (((True) ∧ (True)) ∧ (True)))) ∧ (True))) ∧ PureC Try.prog 38 [(.st (.cons (.sl (.st (.pair (.int .u64) (.pair (.int .i64) .bool))) y_3.2.2.2.2.2.2) (.cons (.st (.cons (.int .i64 y_3.1) (.int .i64 y_3.2.1))) (.cons (.st (.cons (.int .i64 y_3.2.2.1) (.int .i64 y_3.2.2.2.1))) (.int .i64 y_3.2.2.2.2.1))))), (.st (.cons (.sl (.st (.pair (.int .u64) (.pair (.int .i64) .bool))) r_Cells) (.cons (.st (.cons (.int .i64 r_Put_At) (.int .i64 r_Put_Bit))) (.cons (.st (.cons (.int .i64 r_Get_At) (.int .i64 r_Get_Bit))) (.int .i64 r_Get_At)))))] (.bool y_8) []) ∧ ((True) ∧ ((True) ∧ (True)))))))))))))))))))))))))))))))) := ⟨trivial, ⟨trivial, ⟨⟨trivial, c19⟩, ⟨trivial, ⟨trivial, ⟨trivial, ⟨⟨trivial, c21⟩, ⟨trivial, ⟨trivial, ⟨trivial, ⟨trivial, ⟨trivial, ⟨⟨trivial, c23⟩, ⟨trivial, ⟨trivial, ⟨trivial, ⟨trivial, ⟨trivial, ⟨trivial, ⟨trivial, ⟨trivial, ⟨⟨trivial, c25⟩, ⟨trivial, ⟨trivial, ⟨⟨⟨⟨trivial, ⟨⟨trivial, trivial⟩, ⟨⟨trivial, trivial⟩, trivial⟩⟩⟩, ⟨⟨trivial, ⟨⟨trivial, trivial⟩, ⟨⟨trivial, trivial⟩, trivial⟩⟩⟩, trivial⟩⟩, F38_ok n y_2.2.2.2.2.2.2.2.2 y_2.1 y_2.2.1 y_2.2.2.1 y_2.2.2.2.1 y_2.2.2.2.2.1 r_Cells r_Put_At r_Put_Bit m6 m6_2 r_Seen y_7 hx27⟩, ⟨trivial, ⟨⟨trivial, c28⟩, ⟨trivial, ⟨trivial, ⟨⟨⟨⟨trivial, ⟨⟨trivial, trivial⟩, ⟨⟨trivial, trivial⟩, trivial⟩⟩⟩, ⟨⟨trivial, ⟨⟨trivial, trivial⟩, ⟨⟨trivial, trivial⟩, trivial⟩⟩⟩, trivial⟩⟩, F38_ok n y_3.2.2.2.2.2.2 y_3.1 y_3.2.1 y_3.2.2.1 y_3.2.2.2.1 y_3.2.2.2.2.1 r_Cells r_Put_At r_Put_Bit r_Get_At r_Get_Bit r_Get_At y_8 hx30⟩, ⟨trivial, ⟨trivial, trivial⟩⟩⟩⟩⟩⟩⟩⟩⟩⟩⟩⟩⟩⟩⟩⟩⟩⟩⟩⟩⟩⟩⟩⟩⟩⟩⟩⟩⟩⟩⟩⟩
                refine TS.reg [.none, .none, .dec true, .none, .none, .none, .dec true, .none, .none, .none, .none, .none, .dec true, .none, .none, .none, .none, .none, .none, .none, .none, .dec true, .none, .none, (.call (.bool y_7) []), .none, .dec true, .none, .none, (.call (.bool y_8) [])] ?_ ?_
                · apply prop_of ?_ hq
                  kernel_rfl
                refine XS.then ?_
                refine TS.ret ?_
                obtain rfl : y_8 = r := Option.some.inj h
                exact XS.fin [] ((True) ∧ (True)) (by kernel_rfl) ⟨trivial, trivial⟩
              · have hq : (True) ∧ ((True) ∧ (((True) ∧ (y_2.2.2.2.2.2.2.2.1 == (0 : Int)) = true) ∧ ((True) ∧ ((True) ∧ ((True) ∧ (((True) ∧ (y_3.2.2.2.2.2.1 == (0 : Int)) = true) ∧ ((True) ∧ ((True) ∧ ((True) ∧ ((True) ∧ ((True) ∧ (((True) ∧ (y_2.2.2.2.2.2.1 == m5) = true) ∧ ((True) ∧ ((True) ∧ ((True) ∧ ((True) ∧ ((True) ∧ ((True) ∧ ((True) ∧ ((True) ∧ (((True) ∧ (y_2.2.2.2.2.2.2.1 == (!(Sh.beq (.st (.pair (.int .i64) (.int .i64))) (m6, m6_2) (r_Get_At, r_Get_Bit)))) = true) ∧ ((True) ∧ ((True) ∧ (((((True) ∧ (((True) ∧ (True)) ∧ (((True) ∧ (True)) ∧ (True)))) ∧ (((True) ∧ (((True) ∧ (True)) ∧ (((True) ∧ (True)) ∧ (True)))) ∧ (True))) ∧ PureC Try.prog 38 [(.st (.cons (.sl (.st (.pair (.int .u64) (.pair (.int .i64) .bool))) y_2.2.2.2.2.2.2.2.2) (.cons (.st (.cons (.int .i64 y_2.1) (.int .i64 y_2.2.1))) (.cons (.st (.cons (.int .i64 y_2.2.2.1) (.int .i64 y_2.2.2.2.1))) (.int .i64 y_2.2.2.2.2.1))))), (.st (.cons (.sl (.st (.pair (.int .u64) (.pair (.int .i64) .bool))) r_Cells) (.cons (.st (.cons (.int .i64 r_Put_At) (.int .i64 r_Put_Bit))) (.cons (.st (.cons (.int .i64 m6) (.int .i64 m6_2))) (.int .i64 r_Seen)))))] (.bool y_7) []) ∧ ((True) ∧ (((True) ∧ y_7 = false) ∧ ((True) ∧ ((True) ∧ (True))))))))))))))))))))))))))))) := ⟨trivial, ⟨trivial, ⟨⟨trivial, c19⟩, ⟨trivial, ⟨trivial, ⟨trivial, ⟨⟨trivial, c21⟩, ⟨trivial, ⟨trivial, ⟨trivial, ⟨trivial, ⟨trivial, ⟨⟨trivial, c23⟩, ⟨trivial, ⟨trivial, ⟨trivial, ⟨trivial, ⟨trivial, ⟨trivial, ⟨trivial, ⟨trivial, ⟨⟨trivial, c25⟩, ⟨trivial, ⟨trivial, ⟨⟨⟨⟨trivial, ⟨⟨trivial, trivial⟩, ⟨⟨trivial, trivial⟩, trivial⟩⟩⟩, ⟨⟨trivial, ⟨⟨trivial, trivial⟩, ⟨⟨trivial, trivial⟩, trivial⟩⟩⟩, trivial⟩⟩, F38_ok n y_2.2.2.2.2.2.2.2.2 y_2.1 y_2.2.1 y_2.2.2.1 y_2.2.2.2.1 y_2.2.2.2.2.1 r_Cells r_Put_At r_Put_Bit m6 m6_2 r_Seen y_7 hx27⟩, ⟨trivial, ⟨⟨trivial, c29⟩, ⟨trivial, ⟨trivial, trivial⟩⟩⟩⟩⟩⟩⟩⟩⟩⟩⟩⟩⟩⟩⟩⟩⟩⟩⟩⟩⟩⟩⟩⟩⟩⟩⟩⟩⟩
                refine TS.reg [.none, .none, .dec true, .none, .none, .none, .dec true, .none, .none, .none, .none, .none, .dec true, .none, .none, .none, .none, .none, .none, .none, .none, .dec true, .none, .none, (.call (.bool y_7) []), .none, .dec false] ?_ ?_
                · apply prop_of ?_ hq
                  kernel_rfl
                refine XS.then ?_
                refine TS.ret ?_
                obtain rfl : false = r := Option.some.inj h
                exact XS.fin [] ((True) ∧ (True)) (by kernel_rfl) ⟨trivial, trivial⟩
            · have hq : (True) ∧ ((True) ∧ (((True) ∧ (y_2.2.2.2.2.2.2.2.1 == (0 : Int)) = true) ∧ ((True) ∧ ((True) ∧ ((True) ∧ (((True) ∧ (y_3.2.2.2.2.2.1 == (0 : Int)) = true) ∧ ((True) ∧ ((True) ∧ ((True) ∧ ((True) ∧ ((True) ∧ (((True) ∧ (y_2.2.2.2.2.2.1 == m5) = true) ∧ ((True) ∧ ((True) ∧ ((True) ∧ ((True) ∧ ((True) ∧ ((True) ∧ ((True) ∧ ((True) ∧ (((True) ∧ (y_2.2.2.2.2.2.2.1 == (!(Sh.beq (.st (.pair (.int .i64) (.int .i64))) (m6, m6_2) (r_Get_At, r_Get_Bit)))) = false) ∧ ((True) ∧ ((True) ∧ ((True) ∧ ((True) ∧ (True)))))))))))))))))))))))))) := ⟨trivial, ⟨trivial, ⟨⟨trivial, c19⟩, ⟨trivial, ⟨trivial, ⟨trivial, ⟨⟨trivial, c21⟩, ⟨trivial, ⟨trivial, ⟨trivial, ⟨trivial, ⟨trivial, ⟨⟨trivial, c23⟩, ⟨trivial, ⟨trivial, ⟨trivial, ⟨trivial, ⟨trivial, ⟨trivial, ⟨trivial, ⟨trivial, ⟨⟨trivial, c26⟩, ⟨trivial, ⟨trivial, ⟨trivial, ⟨trivial, trivial⟩⟩⟩⟩⟩⟩⟩⟩⟩⟩⟩⟩⟩⟩⟩⟩⟩⟩⟩⟩⟩⟩⟩⟩⟩⟩
              refine TS.reg [.none, .none, .dec true, .none, .none, .none, .dec true, .none, .none, .none, .none, .none, .dec true, .none, .none, .none, .none, .none, .none, .none, .none, .dec false] ?_ ?_
              · apply prop_of ?_ hq
                kernel_rfl
              refine XS.then ?_
              refine TS.ret ?_
              obtain rfl : false = r := Option.some.inj h
              exact XS.fin [] ((True) ∧ (True)) (by kernel_rfl) ⟨trivial, trivial⟩
          · have hq : (True) ∧ ((True) ∧ (((True) ∧ (y_2.2.2.2.2.2.2.2.1 == (0 : Int)) = true) ∧ ((True) ∧ ((True) ∧ ((True) ∧ (((True) ∧ (y_3.2.2.2.2.2.1 == (0 : Int)) = true) ∧ ((True) ∧ ((True) ∧ ((True) ∧ ((True) ∧ ((True) ∧ (((True) ∧ (y_2.2.2.2.2.2.1 == m5) = false) ∧ ((True) ∧ ((True) ∧ ((True) ∧ ((True) ∧ ((True) ∧ ((True) ∧ (True))))))))))))))))))) := ⟨trivial, ⟨trivial, ⟨⟨trivial, c19⟩, ⟨trivial, ⟨trivial, ⟨trivial, ⟨⟨trivial, c21⟩, ⟨trivial, ⟨trivial, ⟨trivial, ⟨trivial, ⟨trivial, ⟨⟨trivial, c24⟩, ⟨trivial, ⟨trivial, ⟨trivial, ⟨trivial, ⟨trivial, ⟨trivial, trivial⟩⟩⟩⟩⟩⟩⟩⟩⟩⟩⟩⟩⟩⟩⟩⟩⟩⟩⟩
            refine TS.reg [.none, .none, .dec true, .none, .none, .none, .dec true, .none, .none, .none, .none, .none, .dec false] ?_ ?_
            · apply prop_of ?_ hq
              kernel_rfl
            refine XS.then ?_
            refine TS.ret ?_
            obtain rfl : false = r := Option.some.inj h
            exact XS.fin [] ((True) ∧ (True)) (by kernel_rfl) ⟨trivial, trivial⟩
        · have hq : (True) ∧ ((True) ∧ (((True) ∧ (y_2.2.2.2.2.2.2.2.1 == (0 : Int)) = true) ∧ ((True) ∧ ((True) ∧ ((True) ∧ (((True) ∧ (y_3.2.2.2.2.2.1 == (0 : Int)) = false) ∧ ((True) ∧ ((True) ∧ ((True) ∧ ((True) ∧ ((True) ∧ ((True) ∧ ((True) ∧ ((True) ∧ (True))))))))))))))) := ⟨trivial, ⟨trivial, ⟨⟨trivial, c19⟩, ⟨trivial, ⟨trivial, ⟨trivial, ⟨⟨trivial, c22⟩, ⟨trivial, ⟨trivial, ⟨trivial, ⟨trivial, ⟨trivial, ⟨trivial, ⟨trivial, ⟨trivial, trivial⟩⟩⟩⟩⟩⟩⟩⟩⟩⟩⟩⟩⟩⟩⟩
          refine TS.reg [.none, .none, .dec true, .none, .none, .none, .dec false] ?_ ?_
          · apply prop_of ?_ hq
            kernel_rfl
          refine XS.then ?_
          refine TS.ret ?_
          obtain rfl : false = r := Option.some.inj h
          exact XS.fin [] ((True) ∧ (True)) (by kernel_rfl) ⟨trivial, trivial⟩
      · have hq : (True) ∧ ((True) ∧ (((True) ∧ (y_2.2.2.2.2.2.2.2.1 == (0 : Int)) = false) ∧ ((True) ∧ ((True) ∧ ((True) ∧ ((True) ∧ ((True) ∧ ((True) ∧ ((True) ∧ ((True) ∧ ((True) ∧ ((True) ∧ (True))))))))))))) := ⟨trivial, ⟨trivial, ⟨⟨trivial, c20⟩, ⟨trivial, ⟨trivial, ⟨trivial, ⟨trivial, ⟨trivial, ⟨trivial, ⟨trivial, ⟨trivial, ⟨trivial, ⟨trivial, trivial⟩⟩⟩⟩⟩⟩⟩⟩⟩⟩⟩⟩⟩
        refine TS.reg [.none, .none, .dec false] ?_ ?_
        · apply prop_of ?_ hq
          kernel_rfl
        refine XS.then ?_
        refine TS.ret ?_
        obtain rfl : false = r := Option.some.inj h
        exact XS.fin [] ((True) ∧ (True)) (by kernel_rfl) ⟨trivial, trivial⟩
    · rcases bif_some h with ⟨c31, h⟩ | ⟨c32, h⟩
      · refine TS.cond ((r_Cells.getD r_Get_At.toNat ((0 : Int), ((0 : Int), false))).2.1 == r_Get_Bit) ?_ (fun e => ?_) (fun e => by rw [c31] at e; cases e)
        · kernel_rfl
        obtain ⟨y_9, hx33, h⟩ := bind_some' h
        have hq : (True) ∧ ((True) ∧ ((True) ∧ ((True) ∧ ((True) ∧ ((True) ∧ ((PureC Try.prog 41 [(.st (.cons (.int .i64 r_Get_At) (.int .i64 r_Get_Bit))), (.int .i64 (IntKind.wrap .i64 (((r_Cells.length : Nat) : Int) - (1 : Int))))] (.st (.cons (.int .i64 y_9.1) (.int .i64 y_9.2))) []) ∧ ((True) ∧ ((True) ∧ (True))))))))) := ⟨trivial, ⟨trivial, ⟨trivial, ⟨trivial, ⟨trivial, ⟨trivial, ⟨F41_ok n r_Get_At r_Get_Bit (IntKind.wrap .i64 (((r_Cells.length : Nat) : Int) - (1 : Int))) y_9 hx33, ⟨trivial, ⟨trivial, trivial⟩⟩⟩⟩⟩⟩⟩⟩⟩
        refine TS.reg [.none, .none, .none, .none, .none, .none, (.call (.st (.cons (.int .i64 y_9.1) (.int .i64 y_9.2))) [])] ?_ ?_
        · apply prop_of ?_ hq
          kernel_rfl
        refine XS.reAny [0, 2, 1, 4, 3, 5, 6] (mkMask 114 [1, 3, 4, 5, 6, 7, 8, 10, 11]) ((r_Cells.getD r_Get_At.toNat ((0 : Int), ((0 : Int), false))).1, y_9.1, y_9.2) h ?_
        kernel_rfl
      · refine TS.cond ((r_Cells.getD r_Get_At.toNat ((0 : Int), ((0 : Int), false))).2.1 == r_Get_Bit) ?_ (fun e => by rw [c32] at e; cases e) (fun e => ?_)
        · kernel_rfl
        have hq : (True) ∧ ((True) ∧ (True)) := ⟨trivial, ⟨trivial, trivial⟩⟩
        refine TS.reg [] ?_ ?_
        · apply prop_of ?_ hq
          kernel_rfl
        refine XS.reAny [0, 2, 1, 4, 3, 5, 6] (mkMask 114 [1, 3, 4, 5, 6, 7, 8, 10, 11]) ((0 : Int), r_Get_At, r_Get_Bit) h ?_
        kernel_rfl
end Go.Proofs.Ytkhfbleldchnpaa
