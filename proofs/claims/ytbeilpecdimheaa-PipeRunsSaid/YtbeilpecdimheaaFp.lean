/- Functions of the program, as functions of values. -/
import Derived.Test.YtbeilpecdimheaaAm24
import Derived.Test.YtbeilpecdimheaaChecked
namespace Go.Proofs.Ytbeilpecdimheaa
open Go Go.RowKit
set_option linter.unusedVariables false
set_option maxRecDepth 100000

/-! plugtree/pipe.Step$1 -/
def F77 (n : Nat) (vn : Int) : Option Bool := (bif (vn == (0 : Int)) then (some true) else (some (vn == (1 : Int))))
theorem F77_ok (n : Nat) (vn : Int) (r : Bool) (h : F77 n vn = some r) : PureC Try.prog 77 [(.int .i64 vn)] (.bool r) [] := by
  refine PureC.mkS Try.func77 rfl rfl ?_
  intro w0 fz0 hfz
  replace h : (bif (vn == (0 : Int)) then (some true) else (some (vn == (1 : Int)))) = some r := h
  refine TS.seq ?_
  have hq : (True) ∧ (True) := ⟨trivial, trivial⟩
  refine TS.reg [] ?_ ?_
  · apply prop_of ?_ hq
    kernel_rfl
  refine XS.then ?_
  refine TS.seq ?_
  rcases bif_some h with ⟨c1, h⟩ | ⟨c2, h⟩
  · have hq : (True) ∧ ((True) ∧ (((True) ∧ (vn == (0 : Int)) = true) ∧ ((True) ∧ ((True) ∧ (True))))) := ⟨trivial, ⟨trivial, ⟨⟨trivial, c1⟩, ⟨trivial, ⟨trivial, trivial⟩⟩⟩⟩⟩
    refine TS.reg [.none, .none, .dec true] ?_ ?_
    · apply prop_of ?_ hq
      kernel_rfl
    refine XS.then ?_
    refine TS.ret ?_
    obtain rfl : true = r := Option.some.inj h
    exact XS.fin [] ((True) ∧ (True)) (by kernel_rfl) ⟨trivial, trivial⟩
  · have hq : (True) ∧ ((True) ∧ (((True) ∧ (vn == (0 : Int)) = false) ∧ ((True) ∧ ((True) ∧ ((True) ∧ ((True) ∧ (True))))))) := ⟨trivial, ⟨trivial, ⟨⟨trivial, c2⟩, ⟨trivial, ⟨trivial, ⟨trivial, ⟨trivial, trivial⟩⟩⟩⟩⟩⟩⟩
    refine TS.reg [.none, .none, .dec false] ?_ ?_
    · apply prop_of ?_ hq
      kernel_rfl
    refine XS.then ?_
    refine TS.ret ?_
    obtain rfl : (vn == (1 : Int)) = r := Option.some.inj h
    exact XS.fin [] ((True) ∧ (True)) (by kernel_rfl) ⟨trivial, trivial⟩

/-! plugtree/pipe.known -/
def F78 (n : Nat) (fate : Int) : Option Bool := (bif (decide (fate ≥ (1 : Int))) then (some (decide (fate ≤ (5 : Int)))) else (some false))
theorem F78_ok (n : Nat) (fate : Int) (r : Bool) (h : F78 n fate = some r) : PureC Try.prog 78 [(.int .i64 fate)] (.bool r) [] := by
  refine PureC.mkS Try.func78 rfl rfl ?_
  intro w0 fz0 hfz
  replace h : (bif (decide (fate ≥ (1 : Int))) then (some (decide (fate ≤ (5 : Int)))) else (some false)) = some r := h
  refine TS.seq ?_
  have hq : (True) ∧ (True) := ⟨trivial, trivial⟩
  refine TS.reg [] ?_ ?_
  · apply prop_of ?_ hq
    kernel_rfl
  refine XS.then ?_
  refine TS.seq ?_
  rcases bif_some h with ⟨c1, h⟩ | ⟨c2, h⟩
  · have hq : (True) ∧ ((True) ∧ (((True) ∧ (decide (fate ≥ (1 : Int))) = true) ∧ ((True) ∧ ((True) ∧ ((True) ∧ ((True) ∧ (True))))))) := ⟨trivial, ⟨trivial, ⟨⟨trivial, c1⟩, ⟨trivial, ⟨trivial, ⟨trivial, ⟨trivial, trivial⟩⟩⟩⟩⟩⟩⟩
    refine TS.reg [.none, .none, .dec true] ?_ ?_
    · apply prop_of ?_ hq
      kernel_rfl
    refine XS.then ?_
    refine TS.ret ?_
    obtain rfl : (decide (fate ≤ (5 : Int))) = r := Option.some.inj h
    exact XS.fin [] ((True) ∧ (True)) (by kernel_rfl) ⟨trivial, trivial⟩
  · have hq : (True) ∧ ((True) ∧ (((True) ∧ (decide (fate ≥ (1 : Int))) = false) ∧ ((True) ∧ ((True) ∧ (True))))) := ⟨trivial, ⟨trivial, ⟨⟨trivial, c2⟩, ⟨trivial, ⟨trivial, trivial⟩⟩⟩⟩⟩
    refine TS.reg [.none, .none, .dec false] ?_ ?_
    · apply prop_of ?_ hq
      kernel_rfl
    refine XS.then ?_
    refine TS.ret ?_
    obtain rfl : false = r := Option.some.inj h
    exact XS.fin [] ((True) ∧ (True)) (by kernel_rfl) ⟨trivial, trivial⟩

/-! slices.Clone[[]string,string] -/
def F79 (n : Nat) (s : List (List UInt8)) : Option (List (List UInt8)) := (bif (decide (([] : List (List UInt8)).length + s.length ≤ 17179869184)) then (some (([] : List (List UInt8)) ++ s)) else none)
theorem F79_ok (n : Nat) (s : List (List UInt8)) (r : List (List UInt8)) (h : F79 n s = some r) : PureC Try.prog 79 [(.sl .str s)] (.row 0) [(.row 9 .str r)] := by
  refine PureC.mkS Try.func79 rfl rfl ?_
  intro w0 fz0 hfz
  replace h : (bif (decide (([] : List (List UInt8)).length + s.length ≤ 17179869184)) then (some (([] : List (List UInt8)) ++ s)) else none) = some r := h
  refine TS.seq ?_
  have hq : (True) ∧ (True) := ⟨trivial, trivial⟩
  refine TS.reg [] ?_ ?_
  · apply prop_of ?_ hq
    kernel_rfl
  refine XS.then ?_
  refine TS.seq ?_
  refine TS.seq ?_
  have hq : (True) ∧ (True) := ⟨trivial, trivial⟩
  refine TS.nilReg 1 [] .str s ?_ (by kernel_rfl) ?_
  · apply prop_of ?_ hq
    kernel_rfl
  · intro b2 hb4
    cases b2
    · clear hb4
      refine XS.then ?_
      refine TS.no ?_ ?_
      · kernel_rfl
      refine TS.skip ?_
      refine XS.then ?_
      refine TS.seq ?_
      obtain ⟨t1, h⟩ := test_some h
      have hq : (True) ∧ ((True) ∧ ((([] : List (List UInt8)).length + s.length ≤ 17179869184) ∧ ((True) ∧ (True)))) := ⟨trivial, ⟨trivial, ⟨of_decide_eq_true t1, ⟨trivial, trivial⟩⟩⟩⟩
      refine TS.reg [] ?_ ?_
      · apply prop_of ?_ hq
        kernel_rfl
      refine XS.then ?_
      refine TS.ret ?_
      obtain rfl : (([] : List (List UInt8)) ++ s) = r := Option.some.inj h
      exact XS.fin [1] ((True) ∧ (True)) (by kernel_rfl) ⟨trivial, trivial⟩
    · have e3 := hb4 rfl
      replace h : (some ([] : List (List UInt8))) = some r := by first | exact h | (rw [e3] at h ⊢; exact h) | simpa [e3] using h
      refine XS.then ?_
      refine TS.yes ?_ ?_
      · kernel_rfl
      refine TS.seq ?_
      have hq : (True) ∧ (True) := ⟨trivial, trivial⟩
      refine TS.reg [] ?_ ?_
      · apply prop_of ?_ hq
        kernel_rfl
      refine XS.then ?_
      refine TS.ret ?_
      refine XS.passR ?_
      obtain rfl : ([] : List (List UInt8)) = r := Option.some.inj h
      refine XS.wk (.row false 2 [] 9 .str) ?_
      exact XS.fin [0] ((True) ∧ (True)) (by kernel_rfl) ⟨trivial, trivial⟩

/-! plugtree/pipe.Step -/
def F37_j6 (n : Nat) (p_Send : Int) (fate : Int) (y_6 : List (List UInt8)) : (Int × (List (List UInt8))) → Option (Int × Int × Int × (List (List UInt8)) × (List (List UInt8)))
  | (m0, m2) => (bif (fate == (1 : Int)) then (bif subB y_6.length (some (1 : Int)) none then ((F79 n (y_6.drop 1)).bind fun y_8 => (some ((IntKind.wrap .i64 ((1 : Int) - p_Send)), m0, (0 : Int), y_8, m2))) else none) else (some (p_Send, m0, (0 : Int), y_6, m2)))
def F37_j5 (n : Nat) (p_Send : Int) (p_Want : Int) (fate : Int) (y_6 : List (List UInt8)) (y_7 : List (List UInt8)) : Bool → Option (Int × Int × Int × (List (List UInt8)) × (List (List UInt8)))
  | x_2 => (bif x_2 then (some (p_Send, p_Want, (0 : Int), y_6, y_7)) else (bif (p_Send == p_Want) then (bif inb (0 : Int) y_6.length then (bif (decide (y_7.length + ([(y_6.getD 0 ([] : List UInt8))]).length ≤ 17179869184)) then (F37_j6 n p_Send fate y_6 ((IntKind.wrap .i64 ((1 : Int) - p_Want)), (y_7 ++ [(y_6.getD 0 ([] : List UInt8))]))) else none) else none) else (F37_j6 n p_Send fate y_6 (p_Want, y_7))))
def F37_j4 (n : Nat) (p_Send : Int) (p_Want : Int) (p_Left : List (List UInt8)) (p_Got : List (List UInt8)) (fate : Int) : Bool → Option (Int × Int × Int × (List (List UInt8)) × (List (List UInt8)))
  | x => (bif x then (some ((0 : Int), (0 : Int), (1 : Int), ([] : List (List UInt8)), ([] : List (List UInt8)))) else (bif (decide (((p_Left.length : Nat) : Int) > (200 : Int))) then (some ((0 : Int), (0 : Int), (2 : Int), ([] : List (List UInt8)), ([] : List (List UInt8)))) else (bif (decide (((p_Got.length : Nat) : Int) > (200 : Int))) then (some ((0 : Int), (0 : Int), (2 : Int), ([] : List (List UInt8)), ([] : List (List UInt8)))) else ((F79 n p_Left).bind fun y_6 => ((F79 n p_Got).bind fun y_7 => (bif (((y_6.length : Nat) : Int) == (0 : Int)) then (F37_j5 n p_Send p_Want fate y_6 y_7 true) else (bif (fate != (1 : Int)) then (F37_j5 n p_Send p_Want fate y_6 y_7 (fate != (3 : Int))) else (F37_j5 n p_Send p_Want fate y_6 y_7 false))))))))
def F37 (n : Nat) (p_Send : Int) (p_Want : Int) (p_Left : List (List UInt8)) (p_Got : List (List UInt8)) (fate : Int) : Option (Int × Int × Int × (List (List UInt8)) × (List (List UInt8))) := ((F77 n p_Send).bind fun y_9 => (bif (!y_9) then (F37_j4 n p_Send p_Want p_Left p_Got fate true) else ((F77 n p_Want).bind fun y_10 => (bif (!y_10) then (F37_j4 n p_Send p_Want p_Left p_Got fate true) else ((F78 n fate).bind fun y_11 => (F37_j4 n p_Send p_Want p_Left p_Got fate (!y_11)))))))
theorem F37_ok (n : Nat) (p_Send : Int) (p_Want : Int) (p_Left : List (List UInt8)) (p_Got : List (List UInt8)) (fate : Int) (r : Int × Int × Int × (List (List UInt8)) × (List (List UInt8))) (h : F37 n p_Send p_Want p_Left p_Got fate = some r) : PureC Try.prog 37 [(.st (.cons (.int .i64 p_Send) (.cons (.int .i64 p_Want) (.cons (.sl .str p_Left) (.sl .str p_Got))))), (.int .i64 fate)] (.tup (.cons (.st (.cons (.int .i64 r.1) (.cons (.int .i64 r.2.1) (.cons (.row 0) (.row 1))))) (.cons (.int .i64 r.2.2.1) .nil))) [(.row 9 .str r.2.2.2.1), (.row 9 .str r.2.2.2.2)] := by
  refine PureC.mkS Try.func37 rfl rfl ?_
  intro w0 fz0 hfz
  replace h : ((F77 n p_Send).bind fun y_9 => (bif (!y_9) then (F37_j4 n p_Send p_Want p_Left p_Got fate true) else ((F77 n p_Want).bind fun y_10 => (bif (!y_10) then (F37_j4 n p_Send p_Want p_Left p_Got fate true) else ((F78 n fate).bind fun y_11 => (F37_j4 n p_Send p_Want p_Left p_Got fate (!y_11))))))) = some r := h
  refine TS.seq ?_
  have hq : (True) ∧ ((True) ∧ ((True) ∧ (True))) := ⟨trivial, ⟨trivial, ⟨trivial, trivial⟩⟩⟩
  refine TS.reg [] ?_ ?_
  · apply prop_of ?_ hq
    kernel_rfl
  refine XS.then ?_
  refine TS.seq ?_
  have hq : (True) ∧ (True) := ⟨trivial, trivial⟩
  refine TS.reg [] ?_ ?_
  · apply prop_of ?_ hq
    kernel_rfl
  refine XS.then ?_
  refine TS.seq ?_
  refine TS.block ?_
  refine TS.seq ?_
  refine TS.cut (D := Bool) (fun d => match d with | x => (mkTs 89 [(1, (.int .i64 fate)), (2, (.ptr 0 [])), (4, (.ptr 1 [])), (7, (.bool x))], [(.box 60 (.st (.cons (.int .i64 p_Send) (.cons (.int .i64 p_Want) (.cons (.sl .str p_Left) (.sl .str p_Got)))))), (.box 60 (.st (.cons (.int .i64 (0 : Int)) (.cons (.int .i64 (0 : Int)) (.cons .nilS .nilS)))))])) (fun d => F37_j4 n p_Send p_Want p_Left p_Got fate d = some r) ?_ ?_
  · rintro x h
    replace h : (bif x then (some ((0 : Int), (0 : Int), (1 : Int), ([] : List (List UInt8)), ([] : List (List UInt8)))) else (bif (decide (((p_Left.length : Nat) : Int) > (200 : Int))) then (some ((0 : Int), (0 : Int), (2 : Int), ([] : List (List UInt8)), ([] : List (List UInt8)))) else (bif (decide (((p_Got.length : Nat) : Int) > (200 : Int))) then (some ((0 : Int), (0 : Int), (2 : Int), ([] : List (List UInt8)), ([] : List (List UInt8)))) else ((F79 n p_Left).bind fun y_6 => ((F79 n p_Got).bind fun y_7 => (bif (((y_6.length : Nat) : Int) == (0 : Int)) then (F37_j5 n p_Send p_Want fate y_6 y_7 true) else (bif (fate != (1 : Int)) then (F37_j5 n p_Send p_Want fate y_6 y_7 (fate != (3 : Int))) else (F37_j5 n p_Send p_Want fate y_6 y_7 false)))))))) = some r := h
    refine XS.then ?_
    rcases bif_some h with ⟨c1, h⟩ | ⟨c2, h⟩
    · refine TS.cond x ?_ (fun e => ?_) (fun e => by rw [c1] at e; cases e)
      · kernel_rfl
      refine TS.seq ?_
      have hq : (True) ∧ ((True) ∧ ((True) ∧ (True))) := ⟨trivial, ⟨trivial, ⟨trivial, trivial⟩⟩⟩
      refine TS.reg [] ?_ ?_
      · apply prop_of ?_ hq
        kernel_rfl
      refine XS.then ?_
      refine TS.ret ?_
      refine XS.blockRet ?_
      refine XS.passR ?_
      obtain rfl : ((0 : Int), (0 : Int), (1 : Int), ([] : List (List UInt8)), ([] : List (List UInt8))) = r := Option.some.inj h
      refine XS.wk (.row true 1 [true, true, false] 9 .str) ?_
      refine XS.wk (.row true 1 [true, true, true] 9 .str) ?_
      exact XS.fin [2, 3] ((True) ∧ ((True) ∧ (True))) (by kernel_rfl) ⟨trivial, ⟨trivial, trivial⟩⟩
    · refine TS.cond x ?_ (fun e => by rw [c2] at e; cases e) (fun e => ?_)
      · kernel_rfl
      refine TS.seq ?_
      rcases bif_some h with ⟨c3, h⟩ | ⟨c4, h⟩
      · have hq : (True) ∧ ((True) ∧ ((True) ∧ ((True) ∧ (((True) ∧ (decide (((p_Left.length : Nat) : Int) > (200 : Int))) = true) ∧ ((True) ∧ ((True) ∧ (True))))))) := ⟨trivial, ⟨trivial, ⟨trivial, ⟨trivial, ⟨⟨trivial, c3⟩, ⟨trivial, ⟨trivial, trivial⟩⟩⟩⟩⟩⟩⟩
        refine TS.reg [.none, .none, .none, .none, .dec true] ?_ ?_
        · apply prop_of ?_ hq
          kernel_rfl
        refine XS.then ?_
        refine TS.yes ?_ ?_
        · kernel_rfl
        refine TS.seq ?_
        have hq : (True) ∧ ((True) ∧ ((True) ∧ (True))) := ⟨trivial, ⟨trivial, ⟨trivial, trivial⟩⟩⟩
        refine TS.reg [] ?_ ?_
        · apply prop_of ?_ hq
          kernel_rfl
        refine XS.then ?_
        refine TS.ret ?_
        refine XS.blockRet ?_
        refine XS.passR ?_
        obtain rfl : ((0 : Int), (0 : Int), (2 : Int), ([] : List (List UInt8)), ([] : List (List UInt8))) = r := Option.some.inj h
        refine XS.wk (.row true 1 [true, true, false] 9 .str) ?_
        refine XS.wk (.row true 1 [true, true, true] 9 .str) ?_
        exact XS.fin [2, 3] ((True) ∧ ((True) ∧ (True))) (by kernel_rfl) ⟨trivial, ⟨trivial, trivial⟩⟩
      · have hq : (True) ∧ ((True) ∧ ((True) ∧ ((True) ∧ (((True) ∧ (decide (((p_Left.length : Nat) : Int) > (200 : Int))) = false) ∧ ((True) ∧ ((True) ∧ ((True) ∧ ((True) ∧ ((True) ∧ ((True) ∧ (True))))))))))) := ⟨trivial, ⟨trivial, ⟨trivial, ⟨trivial, ⟨⟨trivial, c4⟩, ⟨trivial, ⟨trivial, ⟨trivial, ⟨trivial, ⟨trivial, ⟨trivial, trivial⟩⟩⟩⟩⟩⟩⟩⟩⟩⟩⟩
        refine TS.reg [.none, .none, .none, .none, .dec false] ?_ ?_
        · apply prop_of ?_ hq
          kernel_rfl
        refine XS.then ?_
        rcases bif_some h with ⟨c5, h⟩ | ⟨c6, h⟩
        · refine TS.cond (decide (((p_Got.length : Nat) : Int) > (200 : Int))) ?_ (fun e => ?_) (fun e => by rw [c5] at e; cases e)
          · kernel_rfl
          refine TS.seq ?_
          have hq : (True) ∧ ((True) ∧ ((True) ∧ (True))) := ⟨trivial, ⟨trivial, ⟨trivial, trivial⟩⟩⟩
          refine TS.reg [] ?_ ?_
          · apply prop_of ?_ hq
            kernel_rfl
          refine XS.then ?_
          refine TS.ret ?_
          refine XS.blockRet ?_
          refine XS.passR ?_
          obtain rfl : ((0 : Int), (0 : Int), (2 : Int), ([] : List (List UInt8)), ([] : List (List UInt8))) = r := Option.some.inj h
          refine XS.wk (.row true 1 [true, true, false] 9 .str) ?_
          refine XS.wk (.row true 1 [true, true, true] 9 .str) ?_
          exact XS.fin [2, 3] ((True) ∧ ((True) ∧ (True))) (by kernel_rfl) ⟨trivial, ⟨trivial, trivial⟩⟩
        · refine TS.cond (decide (((p_Got.length : Nat) : Int) > (200 : Int))) ?_ (fun e => by rw [c6] at e; cases e) (fun e => ?_)
          · kernel_rfl
          refine TS.skip ?_
          refine XS.blockEnd ?_
          refine XS.then ?_
          refine TS.seq ?_
          obtain ⟨y_6, hx7, h⟩ := bind_some' h
          obtain ⟨y_7, hx8, h⟩ := bind_some' h
          have hq : ((True) ∧ ((True) ∧ ((PureC Try.prog 79 [(.sl .str p_Left)] (.row 0) [(.row 9 .str y_6)]) ∧ ((True) ∧ ((True) ∧ ((PureC Try.prog 79 [(.sl .str p_Got)] (.row 0) [(.row 9 .str y_7)]) ∧ ((True) ∧ (True)))))))) ∧ ((True) ∧ ((True) ∧ ((True) ∧ (True)))) := ⟨⟨trivial, ⟨trivial, ⟨F79_ok n p_Left y_6 hx7, ⟨trivial, ⟨trivial, ⟨F79_ok n p_Got y_7 hx8, ⟨trivial, trivial⟩⟩⟩⟩⟩⟩⟩, ⟨trivial, ⟨trivial, ⟨trivial, trivial⟩⟩⟩⟩
          refine TS.draw 7 [] [.none, .none, (.call (.row 0) [(.row 9 .str y_6)]), .none, .none, (.call (.row 0) [(.row 9 .str y_7)])] (by kernel_rfl) ?_ ?_
          · apply prop_of ?_ hq
            kernel_rfl
          refine XS.then ?_
          refine TS.seq ?_
          refine TS.seq ?_
          refine TS.cut (D := Bool) (fun d => match d with | x_2 => (mkTs 89 [(1, (.int .i64 fate)), (2, (.ptr 0 [])), (4, (.ptr 3 [])), (57, (.bool x_2))], [(.box 60 (.st (.cons (.int .i64 p_Send) (.cons (.int .i64 p_Want) (.cons (.row 1) (.row 2)))))), (.row 9 .str y_6), (.row 9 .str y_7), (.box 60 (.st (.cons (.int .i64 (0 : Int)) (.cons (.int .i64 (0 : Int)) (.cons .nilS .nilS)))))])) (fun d => F37_j5 n p_Send p_Want fate y_6 y_7 d = some r) ?_ ?_
          · rintro x_2 h
            replace h : (bif x_2 then (some (p_Send, p_Want, (0 : Int), y_6, y_7)) else (bif (p_Send == p_Want) then (bif inb (0 : Int) y_6.length then (bif (decide (y_7.length + ([(y_6.getD 0 ([] : List UInt8))]).length ≤ 17179869184)) then (F37_j6 n p_Send fate y_6 ((IntKind.wrap .i64 ((1 : Int) - p_Want)), (y_7 ++ [(y_6.getD 0 ([] : List UInt8))]))) else none) else none) else (F37_j6 n p_Send fate y_6 (p_Want, y_7)))) = some r := h
            refine XS.then ?_
            rcases bif_some h with ⟨c9, h⟩ | ⟨c10, h⟩
            · refine TS.cond x_2 ?_ (fun e => ?_) (fun e => by rw [c9] at e; cases e)
              · kernel_rfl
              refine TS.seq ?_
              have hq : (True) ∧ ((True) ∧ ((True) ∧ (True))) := ⟨trivial, ⟨trivial, ⟨trivial, trivial⟩⟩⟩
              refine TS.reg [] ?_ ?_
              · apply prop_of ?_ hq
                kernel_rfl
              refine XS.then ?_
              refine TS.ret ?_
              refine XS.passR ?_
              obtain rfl : (p_Send, p_Want, (0 : Int), y_6, y_7) = r := Option.some.inj h
              exact XS.fin [1, 2] ((True) ∧ ((True) ∧ (True))) (by kernel_rfl) ⟨trivial, ⟨trivial, trivial⟩⟩
            · refine TS.cond x_2 ?_ (fun e => by rw [c10] at e; cases e) (fun e => ?_)
              · kernel_rfl
              refine TS.skip ?_
              refine XS.then ?_
              refine TS.seq ?_
              refine TS.seq ?_
              have hq : (True) ∧ ((True) ∧ ((True) ∧ ((True) ∧ ((True) ∧ (True))))) := ⟨trivial, ⟨trivial, ⟨trivial, ⟨trivial, ⟨trivial, trivial⟩⟩⟩⟩⟩
              refine TS.reg [] ?_ ?_
              · apply prop_of ?_ hq
                kernel_rfl
              refine XS.then ?_
              refine TS.cut (D := Int × (List (List UInt8))) (fun d => match d with | (m0, m2) => (mkTs 89 [(1, (.int .i64 fate)), (2, (.ptr 0 [])), (4, (.ptr 3 []))], [(.box 60 (.st (.cons (.int .i64 p_Send) (.cons (.int .i64 m0) (.cons (.row 1) (.row 2)))))), (.row 9 .str y_6), (.row 9 .str m2), (.box 60 (.st (.cons (.int .i64 (0 : Int)) (.cons (.int .i64 (0 : Int)) (.cons .nilS .nilS)))))])) (fun d => F37_j6 n p_Send fate y_6 d = some r) ?_ ?_
              · rintro ⟨m0, m2⟩ h
                replace h : (bif (fate == (1 : Int)) then (bif subB y_6.length (some (1 : Int)) none then ((F79 n (y_6.drop 1)).bind fun y_8 => (some ((IntKind.wrap .i64 ((1 : Int) - p_Send)), m0, (0 : Int), y_8, m2))) else none) else (some (p_Send, m0, (0 : Int), y_6, m2))) = some r := h
                refine XS.then ?_
                refine TS.seq ?_
                refine TS.seq ?_
                have hq : (True) ∧ ((True) ∧ (True)) := ⟨trivial, ⟨trivial, trivial⟩⟩
                refine TS.reg [] ?_ ?_
                · apply prop_of ?_ hq
                  kernel_rfl
                refine XS.then ?_
                rcases bif_some h with ⟨c11, h⟩ | ⟨c12, h⟩
                · refine TS.cond (fate == (1 : Int)) ?_ (fun e => ?_) (fun e => by rw [c11] at e; cases e)
                  · kernel_rfl
                  refine TS.seq ?_
                  refine TS.wk (.frz 1) ?_
                  obtain ⟨t13, h⟩ := test_some h
                  obtain ⟨y_8, hx14, h⟩ := bind_some' h
                  have hq : (True) ∧ ((True) ∧ ((subC y_6.length (some (1 : Int)) none) ∧ ((PureC Try.prog 79 [(.sl .str (y_6.drop 1))] (.row 0) [(.row 9 .str y_8)]) ∧ ((True) ∧ ((True) ∧ (True)))))) := ⟨trivial, ⟨trivial, ⟨subB_ok t13, ⟨F79_ok n (y_6.drop 1) y_8 hx14, ⟨trivial, ⟨trivial, trivial⟩⟩⟩⟩⟩⟩
                  refine TS.reg [.none, .none, .none, (.call (.row 0) [(.row 9 .str y_8)])] ?_ ?_
                  · apply prop_of ?_ hq
                    kernel_rfl
                  refine XS.then ?_
                  have hq : (True) ∧ ((True) ∧ ((True) ∧ ((True) ∧ ((True) ∧ (True))))) := ⟨trivial, ⟨trivial, ⟨trivial, ⟨trivial, ⟨trivial, trivial⟩⟩⟩⟩⟩
                  refine TS.reg [] ?_ ?_
                  · apply prop_of ?_ hq
                    kernel_rfl
                  refine XS.then ?_
                  refine TS.seq ?_
                  have hq : (True) ∧ ((True) ∧ ((True) ∧ (True))) := ⟨trivial, ⟨trivial, ⟨trivial, trivial⟩⟩⟩
                  refine TS.reg [] ?_ ?_
                  · apply prop_of ?_ hq
                    kernel_rfl
                  refine XS.then ?_
                  refine TS.ret ?_
                  obtain rfl : ((IntKind.wrap .i64 ((1 : Int) - p_Send)), m0, (0 : Int), y_8, m2) = r := Option.some.inj h
                  exact XS.fin [4, 2] ((True) ∧ ((True) ∧ (True))) (by kernel_rfl) ⟨trivial, ⟨trivial, trivial⟩⟩
                · refine TS.cond (fate == (1 : Int)) ?_ (fun e => by rw [c12] at e; cases e) (fun e => ?_)
                  · kernel_rfl
                  refine TS.skip ?_
                  refine XS.then ?_
                  refine TS.seq ?_
                  have hq : (True) ∧ ((True) ∧ ((True) ∧ (True))) := ⟨trivial, ⟨trivial, ⟨trivial, trivial⟩⟩⟩
                  refine TS.reg [] ?_ ?_
                  · apply prop_of ?_ hq
                    kernel_rfl
                  refine XS.then ?_
                  refine TS.ret ?_
                  obtain rfl : (p_Send, m0, (0 : Int), y_6, m2) = r := Option.some.inj h
                  exact XS.fin [1, 2] ((True) ∧ ((True) ∧ (True))) (by kernel_rfl) ⟨trivial, ⟨trivial, trivial⟩⟩
              · rcases bif_some h with ⟨c15, h⟩ | ⟨c16, h⟩
                · refine TS.cond (p_Send == p_Want) ?_ (fun e => ?_) (fun e => by rw [c15] at e; cases e)
                  · kernel_rfl
                  refine TS.seq ?_
                  obtain ⟨t17, h⟩ := test_some h
                  obtain ⟨t18, h⟩ := test_some h
                  have hq : ((True) ∧ ((True) ∧ ((True) ∧ ((True) ∧ ((inR (0 : Int) y_6.length) ∧ ((0 < y_6.length ∧ (True)) ∧ (((0 < 1 ∧ True) ∧ (True)) ∧ (True)))))))) ∧ ((y_7.length + ([(y_6.getD 0 ([] : List UInt8))]).length ≤ 17179869184) ∧ ((True) ∧ ((True) ∧ (True)))) := ⟨⟨trivial, ⟨trivial, ⟨trivial, ⟨trivial, ⟨inb_ok t17, ⟨⟨inR_lt (inb_ok t17), trivial⟩, ⟨⟨⟨by decide, trivial⟩, trivial⟩, trivial⟩⟩⟩⟩⟩⟩⟩, ⟨of_decide_eq_true t18, ⟨trivial, ⟨trivial, trivial⟩⟩⟩⟩
                  refine TS.draw 7 [] [] (by kernel_rfl) ?_ ?_
                  · apply prop_of ?_ hq
                    kernel_rfl
                  refine XS.then ?_
                  have hq : (True) ∧ ((True) ∧ ((True) ∧ ((True) ∧ ((True) ∧ (True))))) := ⟨trivial, ⟨trivial, ⟨trivial, ⟨trivial, ⟨trivial, trivial⟩⟩⟩⟩⟩
                  refine TS.reg [] ?_ ?_
                  · apply prop_of ?_ hq
                    kernel_rfl
                  refine XS.reAny [0, 1, 5, 3] (mkMask 89 [1, 2, 4]) ((IntKind.wrap .i64 ((1 : Int) - p_Want)), (y_7 ++ [(y_6.getD 0 ([] : List UInt8))])) h ?_
                  kernel_rfl
                · refine TS.cond (p_Send == p_Want) ?_ (fun e => by rw [c16] at e; cases e) (fun e => ?_)
                  · kernel_rfl
                  refine TS.skip ?_
                  refine XS.reAny [0, 1, 2, 3] (mkMask 89 [1, 2, 4]) (p_Want, y_7) h ?_
                  kernel_rfl
          · rcases bif_some h with ⟨c19, h⟩ | ⟨c20, h⟩
            · have hq : (True) ∧ ((True) ∧ ((True) ∧ ((True) ∧ (((True) ∧ (((y_6.length : Nat) : Int) == (0 : Int)) = true) ∧ ((True) ∧ (True)))))) := ⟨trivial, ⟨trivial, ⟨trivial, ⟨trivial, ⟨⟨trivial, c19⟩, ⟨trivial, trivial⟩⟩⟩⟩⟩⟩
              refine TS.reg [.none, .none, .none, .none, .dec true] ?_ ?_
              · apply prop_of ?_ hq
                kernel_rfl
              refine XS.reAny [0, 2, 3, 1] (mkMask 89 [1, 2, 4, 57]) true h ?_
              kernel_rfl
            · rcases bif_some h with ⟨c21, h⟩ | ⟨c22, h⟩
              · have hq : (True) ∧ ((True) ∧ ((True) ∧ ((True) ∧ (((True) ∧ (((y_6.length : Nat) : Int) == (0 : Int)) = false) ∧ ((True) ∧ ((True) ∧ (((True) ∧ (fate != (1 : Int)) = true) ∧ ((True) ∧ ((True) ∧ ((True) ∧ ((True) ∧ (True)))))))))))) := ⟨trivial, ⟨trivial, ⟨trivial, ⟨trivial, ⟨⟨trivial, c20⟩, ⟨trivial, ⟨trivial, ⟨⟨trivial, c21⟩, ⟨trivial, ⟨trivial, ⟨trivial, ⟨trivial, trivial⟩⟩⟩⟩⟩⟩⟩⟩⟩⟩⟩⟩
                refine TS.reg [.none, .none, .none, .none, .dec false, .none, .none, .dec true] ?_ ?_
                · apply prop_of ?_ hq
                  kernel_rfl
                refine XS.reAny [0, 2, 3, 1] (mkMask 89 [1, 2, 4, 57]) (fate != (3 : Int)) h ?_
                kernel_rfl
              · have hq : (True) ∧ ((True) ∧ ((True) ∧ ((True) ∧ (((True) ∧ (((y_6.length : Nat) : Int) == (0 : Int)) = false) ∧ ((True) ∧ ((True) ∧ (((True) ∧ (fate != (1 : Int)) = false) ∧ ((True) ∧ ((True) ∧ (True)))))))))) := ⟨trivial, ⟨trivial, ⟨trivial, ⟨trivial, ⟨⟨trivial, c20⟩, ⟨trivial, ⟨trivial, ⟨⟨trivial, c22⟩, ⟨trivial, ⟨trivial, trivial⟩⟩⟩⟩⟩⟩⟩⟩⟩⟩
                refine TS.reg [.none, .none, .none, .none, .dec false, .none, .none, .dec false] ?_ ?_
                · apply prop_of ?_ hq
                  kernel_rfl
                refine XS.reAny [0, 2, 3, 1] (mkMask 89 [1, 2, 4, 57]) false h ?_
                kernel_rfl
  · obtain ⟨y_9, hx23, h⟩ := bind_some' h
    rcases bif_some h with ⟨c24, h⟩ | ⟨c25, h⟩
    · have hq : (True) ∧ ((True) ∧ ((True) ∧ ((PureC Try.prog 77 [(.int .i64 p_Send)] (.bool y_9) []) ∧ ((True) ∧ (((True) ∧ (!y_9) = true) ∧ ((True) ∧ ((True) ∧ ((True) ∧ ((True) ∧ (True)))))))))) := ⟨trivial, ⟨trivial, ⟨trivial, ⟨F77_ok n p_Send y_9 hx23, ⟨trivial, ⟨⟨trivial, c24⟩, ⟨trivial, ⟨trivial, ⟨trivial, ⟨trivial, trivial⟩⟩⟩⟩⟩⟩⟩⟩⟩⟩
      refine TS.reg [.none, .none, .none, (.call (.bool y_9) []), .none, .dec true] ?_ ?_
      · apply prop_of ?_ hq
        kernel_rfl
      refine XS.reAny [0, 1] (mkMask 89 [1, 2, 4, 7]) true h ?_
      kernel_rfl
    · obtain ⟨y_10, hx26, h⟩ := bind_some' h
      rcases bif_some h with ⟨c27, h⟩ | ⟨c28, h⟩
      · have hq : (True) ∧ ((True) ∧ ((True) ∧ ((PureC Try.prog 77 [(.int .i64 p_Send)] (.bool y_9) []) ∧ ((True) ∧ (((True) ∧ (!y_9) = false) ∧ ((True) ∧ ((True) ∧ ((True) ∧ ((PureC Try.prog 77 [(.int .i64 p_Want)] (.bool y_10) []) ∧ ((True) ∧ ((True) ∧ (((True) ∧ (!y_10) = true) ∧ ((True) ∧ ((True) ∧ (True))))))))))))))) := ⟨trivial, ⟨trivial, ⟨trivial, ⟨F77_ok n p_Send y_9 hx23, ⟨trivial, ⟨⟨trivial, c25⟩, ⟨trivial, ⟨trivial, ⟨trivial, ⟨F77_ok n p_Want y_10 hx26, ⟨trivial, ⟨trivial, ⟨⟨trivial, c27⟩, ⟨trivial, ⟨trivial, trivial⟩⟩⟩⟩⟩⟩⟩⟩⟩⟩⟩⟩⟩⟩⟩
        refine TS.reg [.none, .none, .none, (.call (.bool y_9) []), .none, .dec false, .none, .none, .none, (.call (.bool y_10) []), .none, .none, .dec true] ?_ ?_
        · apply prop_of ?_ hq
          kernel_rfl
        refine XS.reAny [0, 1] (mkMask 89 [1, 2, 4, 7]) true h ?_
        kernel_rfl
      · obtain ⟨y_11, hx29, h⟩ := bind_some' h
        have hq : (True) ∧ ((True) ∧ ((True) ∧ ((PureC Try.prog 77 [(.int .i64 p_Send)] (.bool y_9) []) ∧ ((True) ∧ (((True) ∧ (!y_9) = false) ∧ ((True) ∧ ((True) ∧ ((True) ∧ ((PureC Try.prog 77 [(.int .i64 p_Want)] (.bool y_10) []) ∧ ((True) ∧ ((True) ∧ (((True) ∧ (!y_10) = false) ∧ ((True) ∧ ((PureC Try.prog 78 [(.int .i64 fate)] (.bool y_11) []) ∧ ((True) ∧ ((True) ∧ ((True) ∧ (True)))))))))))))))))) := ⟨trivial, ⟨trivial, ⟨trivial, ⟨F77_ok n p_Send y_9 hx23, ⟨trivial, ⟨⟨trivial, c25⟩, ⟨trivial, ⟨trivial, ⟨trivial, ⟨F77_ok n p_Want y_10 hx26, ⟨trivial, ⟨trivial, ⟨⟨trivial, c28⟩, ⟨trivial, ⟨F78_ok n fate y_11 hx29, ⟨trivial, ⟨trivial, ⟨trivial, trivial⟩⟩⟩⟩⟩⟩⟩⟩⟩⟩⟩⟩⟩⟩⟩⟩⟩⟩
        refine TS.reg [.none, .none, .none, (.call (.bool y_9) []), .none, .dec false, .none, .none, .none, (.call (.bool y_10) []), .none, .none, .dec false, .none, (.call (.bool y_11) [])] ?_ ?_
        · apply prop_of ?_ hq
          kernel_rfl
        refine XS.reAny [0, 1] (mkMask 89 [1, 2, 4, 7]) (!y_11) h ?_
        kernel_rfl

/-! plugtree/plugref.Between -/
def F66 (n : Nat) (vn : Int) (low : Int) (high : Int) : Option Bool := (bif (decide (low ≤ vn)) then (some (decide (vn ≤ high))) else (some false))
theorem F66_ok (n : Nat) (vn : Int) (low : Int) (high : Int) (r : Bool) (h : F66 n vn low high = some r) : PureC Try.prog 66 [(.int .i64 vn), (.int .i64 low), (.int .i64 high)] (.bool r) [] := by
  refine PureC.mkS Try.func66 rfl rfl ?_
  intro w0 fz0 hfz
  replace h : (bif (decide (low ≤ vn)) then (some (decide (vn ≤ high))) else (some false)) = some r := h
  refine TS.seq ?_
  have hq : (True) ∧ (True) := ⟨trivial, trivial⟩
  refine TS.reg [] ?_ ?_
  · apply prop_of ?_ hq
    kernel_rfl
  refine XS.then ?_
  refine TS.seq ?_
  rcases bif_some h with ⟨c1, h⟩ | ⟨c2, h⟩
  · have hq : (True) ∧ ((True) ∧ ((True) ∧ (((True) ∧ (decide (low ≤ vn)) = true) ∧ ((True) ∧ ((True) ∧ ((True) ∧ ((True) ∧ ((True) ∧ (True))))))))) := ⟨trivial, ⟨trivial, ⟨trivial, ⟨⟨trivial, c1⟩, ⟨trivial, ⟨trivial, ⟨trivial, ⟨trivial, ⟨trivial, trivial⟩⟩⟩⟩⟩⟩⟩⟩⟩
    refine TS.reg [.none, .none, .none, .dec true] ?_ ?_
    · apply prop_of ?_ hq
      kernel_rfl
    refine XS.then ?_
    refine TS.ret ?_
    obtain rfl : (decide (vn ≤ high)) = r := Option.some.inj h
    exact XS.fin [] ((True) ∧ (True)) (by kernel_rfl) ⟨trivial, trivial⟩
  · have hq : (True) ∧ ((True) ∧ ((True) ∧ (((True) ∧ (decide (low ≤ vn)) = false) ∧ ((True) ∧ ((True) ∧ (True)))))) := ⟨trivial, ⟨trivial, ⟨trivial, ⟨⟨trivial, c2⟩, ⟨trivial, ⟨trivial, trivial⟩⟩⟩⟩⟩⟩
    refine TS.reg [.none, .none, .none, .dec false] ?_ ?_
    · apply prop_of ?_ hq
      kernel_rfl
    refine XS.then ?_
    refine TS.ret ?_
    obtain rfl : false = r := Option.some.inj h
    exact XS.fin [] ((True) ∧ (True)) (by kernel_rfl) ⟨trivial, trivial⟩

/-! plugtree/plugref.Fate -/
def F80 (n : Nat) (f : Int) : Option Bool := ((F66 n f (1 : Int) (5 : Int)).bind fun y_2 => (some y_2))
theorem F80_ok (n : Nat) (f : Int) (r : Bool) (h : F80 n f = some r) : PureC Try.prog 80 [(.int .i64 f)] (.bool r) [] := by
  refine PureC.mkS Try.func80 rfl rfl ?_
  intro w0 fz0 hfz
  replace h : ((F66 n f (1 : Int) (5 : Int)).bind fun y_2 => (some y_2)) = some r := h
  refine TS.seq ?_
  have hq : (True) ∧ (True) := ⟨trivial, trivial⟩
  refine TS.reg [] ?_ ?_
  · apply prop_of ?_ hq
    kernel_rfl
  refine XS.then ?_
  refine TS.seq ?_
  obtain ⟨y_2, hx1, h⟩ := bind_some' h
  have hq : (True) ∧ ((PureC Try.prog 66 [(.int .i64 f), (.int .i64 (1 : Int)), (.int .i64 (5 : Int))] (.bool y_2) []) ∧ ((True) ∧ (True))) := ⟨trivial, ⟨F66_ok n f (1 : Int) (5 : Int) y_2 hx1, ⟨trivial, trivial⟩⟩⟩
  refine TS.reg [.none, (.call (.bool y_2) [])] ?_ ?_
  · apply prop_of ?_ hq
    kernel_rfl
  refine XS.then ?_
  refine TS.ret ?_
  obtain rfl : y_2 = r := Option.some.inj h
  exact XS.fin [] ((True) ∧ (True)) (by kernel_rfl) ⟨trivial, trivial⟩

/-! plugtree/plugref.Pipe -/
def F38_j6 (n : Nat) (p_Send : Int) (y_6 : List (List UInt8)) : (Int × (List (List UInt8))) → Option (Int × Int × (List (List UInt8)) × Int × (List (List UInt8)))
  | (m2, m4) => (bif subB y_6.length (some (1 : Int)) none then (some ((IntKind.wrap .i64 ((1 : Int) - p_Send)), m2, (y_6.drop 1), (0 : Int), m4)) else none)
def F38_j8 (n : Nat) (p_Send : Int) (p_Left : List (List UInt8)) (y_6 : List (List UInt8)) : (Int × (List (List UInt8))) → Option (Int × Int × (List (List UInt8)) × Int × (List (List UInt8)))
  | (m2_2, m4_2) => (bif (decide (((p_Left.length : Nat) : Int) > (0 : Int))) then (some (p_Send, m2_2, y_6, (0 : Int), m4_2)) else (some (p_Send, m2_2, y_6, (0 : Int), m4_2)))
def F38_j7 (n : Nat) (p_Send : Int) (p_Want : Int) (p_Left : List (List UInt8)) (y_6 : List (List UInt8)) (y_7 : List (List UInt8)) : Bool → Option (Int × Int × (List (List UInt8)) × Int × (List (List UInt8)))
  | x_2 => (bif x_2 then (bif inb (0 : Int) p_Left.length then (bif (decide (y_7.length + ([(p_Left.getD 0 ([] : List UInt8))]).length ≤ 17179869184)) then (F38_j8 n p_Send p_Left y_6 ((IntKind.wrap .i64 ((1 : Int) - p_Want)), (y_7 ++ [(p_Left.getD 0 ([] : List UInt8))]))) else none) else none) else (F38_j8 n p_Send p_Left y_6 (p_Want, y_7)))
def F38_j5 (n : Nat) (p_Send : Int) (p_Want : Int) (p_Left : List (List UInt8)) (p_Got : List (List UInt8)) (fate : Int) : Bool → Option (Int × Int × (List (List UInt8)) × Int × (List (List UInt8)))
  | x => (bif x then (some ((0 : Int), (0 : Int), ([] : List (List UInt8)), (1 : Int), ([] : List (List UInt8)))) else (bif (decide (((p_Left.length : Nat) : Int) > (200 : Int))) then (some ((0 : Int), (0 : Int), ([] : List (List UInt8)), (2 : Int), ([] : List (List UInt8)))) else (bif (decide (((p_Got.length : Nat) : Int) > (200 : Int))) then (some ((0 : Int), (0 : Int), ([] : List (List UInt8)), (2 : Int), ([] : List (List UInt8)))) else ((F79 n p_Left).bind fun y_6 => ((F79 n p_Got).bind fun y_7 => (bif (fate == (1 : Int)) then (bif (decide (((p_Left.length : Nat) : Int) > (0 : Int))) then (bif (p_Send == p_Want) then (bif inb (0 : Int) p_Left.length then (bif (decide (y_7.length + ([(p_Left.getD 0 ([] : List UInt8))]).length ≤ 17179869184)) then (F38_j6 n p_Send y_6 ((IntKind.wrap .i64 ((1 : Int) - p_Want)), (y_7 ++ [(p_Left.getD 0 ([] : List UInt8))]))) else none) else none) else (F38_j6 n p_Send y_6 (p_Want, y_7))) else (some (p_Send, p_Want, y_6, (0 : Int), y_7))) else (bif (decide (((p_Left.length : Nat) : Int) > (0 : Int))) then (bif (fate == (3 : Int)) then (F38_j7 n p_Send p_Want p_Left y_6 y_7 (p_Send == p_Want)) else (F38_j7 n p_Send p_Want p_Left y_6 y_7 false)) else (F38_j7 n p_Send p_Want p_Left y_6 y_7 false))))))))
def F38 (n : Nat) (p_Send : Int) (p_Want : Int) (p_Left : List (List UInt8)) (p_Got : List (List UInt8)) (fate : Int) : Option (Int × Int × (List (List UInt8)) × Int × (List (List UInt8))) := ((F66 n p_Send (0 : Int) (1 : Int)).bind fun y_8 => (bif (!y_8) then (F38_j5 n p_Send p_Want p_Left p_Got fate true) else ((F66 n p_Want (0 : Int) (1 : Int)).bind fun y_9 => (bif (!y_9) then (F38_j5 n p_Send p_Want p_Left p_Got fate true) else ((F80 n fate).bind fun y_10 => (F38_j5 n p_Send p_Want p_Left p_Got fate (!y_10)))))))
theorem F38_ok (n : Nat) (p_Send : Int) (p_Want : Int) (p_Left : List (List UInt8)) (p_Got : List (List UInt8)) (fate : Int) (r : Int × Int × (List (List UInt8)) × Int × (List (List UInt8))) (h : F38 n p_Send p_Want p_Left p_Got fate = some r) : PureC Try.prog 38 [(.st (.cons (.int .i64 p_Send) (.cons (.int .i64 p_Want) (.cons (.sl .str p_Left) (.sl .str p_Got))))), (.int .i64 fate)] (.tup (.cons (.st (.cons (.int .i64 r.1) (.cons (.int .i64 r.2.1) (.cons (.sl .str r.2.2.1) (.row 0))))) (.cons (.int .i64 r.2.2.2.1) .nil))) [(.row 9 .str r.2.2.2.2)] := by
  refine PureC.mkS Try.func38 rfl rfl ?_
  intro w0 fz0 hfz
  replace h : ((F66 n p_Send (0 : Int) (1 : Int)).bind fun y_8 => (bif (!y_8) then (F38_j5 n p_Send p_Want p_Left p_Got fate true) else ((F66 n p_Want (0 : Int) (1 : Int)).bind fun y_9 => (bif (!y_9) then (F38_j5 n p_Send p_Want p_Left p_Got fate true) else ((F80 n fate).bind fun y_10 => (F38_j5 n p_Send p_Want p_Left p_Got fate (!y_10))))))) = some r := h
  refine TS.seq ?_
  have hq : (True) ∧ ((True) ∧ ((True) ∧ (True))) := ⟨trivial, ⟨trivial, ⟨trivial, trivial⟩⟩⟩
  refine TS.reg [] ?_ ?_
  · apply prop_of ?_ hq
    kernel_rfl
  refine XS.then ?_
  refine TS.seq ?_
  refine TS.seq ?_
  refine TS.cut (D := Bool) (fun d => match d with | x => (mkTs 96 [(1, (.int .i64 fate)), (2, (.ptr 0 [])), (4, (.ptr 1 [])), (22, (.bool x))], [(.box 60 (.st (.cons (.int .i64 p_Send) (.cons (.int .i64 p_Want) (.cons (.sl .str p_Left) (.sl .str p_Got)))))), (.box 60 (.st (.cons (.int .i64 (0 : Int)) (.cons (.int .i64 (0 : Int)) (.cons .nilS .nilS)))))])) (fun d => F38_j5 n p_Send p_Want p_Left p_Got fate d = some r) ?_ ?_
  · rintro x h
    replace h : (bif x then (some ((0 : Int), (0 : Int), ([] : List (List UInt8)), (1 : Int), ([] : List (List UInt8)))) else (bif (decide (((p_Left.length : Nat) : Int) > (200 : Int))) then (some ((0 : Int), (0 : Int), ([] : List (List UInt8)), (2 : Int), ([] : List (List UInt8)))) else (bif (decide (((p_Got.length : Nat) : Int) > (200 : Int))) then (some ((0 : Int), (0 : Int), ([] : List (List UInt8)), (2 : Int), ([] : List (List UInt8)))) else ((F79 n p_Left).bind fun y_6 => ((F79 n p_Got).bind fun y_7 => (bif (fate == (1 : Int)) then (bif (decide (((p_Left.length : Nat) : Int) > (0 : Int))) then (bif (p_Send == p_Want) then (bif inb (0 : Int) p_Left.length then (bif (decide (y_7.length + ([(p_Left.getD 0 ([] : List UInt8))]).length ≤ 17179869184)) then (F38_j6 n p_Send y_6 ((IntKind.wrap .i64 ((1 : Int) - p_Want)), (y_7 ++ [(p_Left.getD 0 ([] : List UInt8))]))) else none) else none) else (F38_j6 n p_Send y_6 (p_Want, y_7))) else (some (p_Send, p_Want, y_6, (0 : Int), y_7))) else (bif (decide (((p_Left.length : Nat) : Int) > (0 : Int))) then (bif (fate == (3 : Int)) then (F38_j7 n p_Send p_Want p_Left y_6 y_7 (p_Send == p_Want)) else (F38_j7 n p_Send p_Want p_Left y_6 y_7 false)) else (F38_j7 n p_Send p_Want p_Left y_6 y_7 false)))))))) = some r := h
    refine XS.then ?_
    rcases bif_some h with ⟨c1, h⟩ | ⟨c2, h⟩
    · refine TS.cond x ?_ (fun e => ?_) (fun e => by rw [c1] at e; cases e)
      · kernel_rfl
      refine TS.seq ?_
      have hq : (True) ∧ ((True) ∧ ((True) ∧ (True))) := ⟨trivial, ⟨trivial, ⟨trivial, trivial⟩⟩⟩
      refine TS.reg [] ?_ ?_
      · apply prop_of ?_ hq
        kernel_rfl
      refine XS.then ?_
      refine TS.ret ?_
      refine XS.passR ?_
      obtain rfl : ((0 : Int), (0 : Int), ([] : List (List UInt8)), (1 : Int), ([] : List (List UInt8))) = r := Option.some.inj h
      refine XS.wk (.view true 1 [true, true, false] .str) ?_
      refine XS.wk (.row true 1 [true, true, true] 9 .str) ?_
      exact XS.fin [2] ((True) ∧ ((True) ∧ (True))) (by kernel_rfl) ⟨trivial, ⟨trivial, trivial⟩⟩
    · refine TS.cond x ?_ (fun e => by rw [c2] at e; cases e) (fun e => ?_)
      · kernel_rfl
      refine TS.skip ?_
      refine XS.then ?_
      refine TS.seq ?_
      refine TS.seq ?_
      rcases bif_some h with ⟨c3, h⟩ | ⟨c4, h⟩
      · have hq : (True) ∧ ((True) ∧ ((True) ∧ ((True) ∧ (((True) ∧ (decide (((p_Left.length : Nat) : Int) > (200 : Int))) = true) ∧ ((True) ∧ (True)))))) := ⟨trivial, ⟨trivial, ⟨trivial, ⟨trivial, ⟨⟨trivial, c3⟩, ⟨trivial, trivial⟩⟩⟩⟩⟩⟩
        refine TS.reg [.none, .none, .none, .none, .dec true] ?_ ?_
        · apply prop_of ?_ hq
          kernel_rfl
        refine XS.then ?_
        refine TS.yes ?_ ?_
        · kernel_rfl
        refine TS.seq ?_
        have hq : (True) ∧ ((True) ∧ ((True) ∧ (True))) := ⟨trivial, ⟨trivial, ⟨trivial, trivial⟩⟩⟩
        refine TS.reg [] ?_ ?_
        · apply prop_of ?_ hq
          kernel_rfl
        refine XS.then ?_
        refine TS.ret ?_
        refine XS.passR ?_
        obtain rfl : ((0 : Int), (0 : Int), ([] : List (List UInt8)), (2 : Int), ([] : List (List UInt8))) = r := Option.some.inj h
        refine XS.wk (.view true 1 [true, true, false] .str) ?_
        refine XS.wk (.row true 1 [true, true, true] 9 .str) ?_
        exact XS.fin [2] ((True) ∧ ((True) ∧ (True))) (by kernel_rfl) ⟨trivial, ⟨trivial, trivial⟩⟩
      · have hq : (True) ∧ ((True) ∧ ((True) ∧ ((True) ∧ (((True) ∧ (decide (((p_Left.length : Nat) : Int) > (200 : Int))) = false) ∧ ((True) ∧ ((True) ∧ ((True) ∧ ((True) ∧ ((True) ∧ (True)))))))))) := ⟨trivial, ⟨trivial, ⟨trivial, ⟨trivial, ⟨⟨trivial, c4⟩, ⟨trivial, ⟨trivial, ⟨trivial, ⟨trivial, ⟨trivial, trivial⟩⟩⟩⟩⟩⟩⟩⟩⟩⟩
        refine TS.reg [.none, .none, .none, .none, .dec false] ?_ ?_
        · apply prop_of ?_ hq
          kernel_rfl
        refine XS.then ?_
        rcases bif_some h with ⟨c5, h⟩ | ⟨c6, h⟩
        · refine TS.cond (decide (((p_Got.length : Nat) : Int) > (200 : Int))) ?_ (fun e => ?_) (fun e => by rw [c5] at e; cases e)
          · kernel_rfl
          refine TS.seq ?_
          have hq : (True) ∧ ((True) ∧ ((True) ∧ (True))) := ⟨trivial, ⟨trivial, ⟨trivial, trivial⟩⟩⟩
          refine TS.reg [] ?_ ?_
          · apply prop_of ?_ hq
            kernel_rfl
          refine XS.then ?_
          refine TS.ret ?_
          refine XS.passR ?_
          obtain rfl : ((0 : Int), (0 : Int), ([] : List (List UInt8)), (2 : Int), ([] : List (List UInt8))) = r := Option.some.inj h
          refine XS.wk (.view true 1 [true, true, false] .str) ?_
          refine XS.wk (.row true 1 [true, true, true] 9 .str) ?_
          exact XS.fin [2] ((True) ∧ ((True) ∧ (True))) (by kernel_rfl) ⟨trivial, ⟨trivial, trivial⟩⟩
        · refine TS.cond (decide (((p_Got.length : Nat) : Int) > (200 : Int))) ?_ (fun e => by rw [c6] at e; cases e) (fun e => ?_)
          · kernel_rfl
          refine TS.skip ?_
          refine XS.then ?_
          refine TS.seq ?_
          obtain ⟨y_6, hx7, h⟩ := bind_some' h
          obtain ⟨y_7, hx8, h⟩ := bind_some' h
          have hq : ((True) ∧ ((True) ∧ ((True) ∧ ((True) ∧ ((True) ∧ ((True) ∧ ((PureC Try.prog 79 [(.sl .str p_Left)] (.row 0) [(.row 9 .str y_6)]) ∧ ((True) ∧ ((True) ∧ ((PureC Try.prog 79 [(.sl .str p_Got)] (.row 0) [(.row 9 .str y_7)]) ∧ (((True) ∧ ((True) ∧ ((True) ∧ ((True) ∧ (True))))) ∧ ((True) ∧ (True))))))))))))) ∧ ((True) ∧ (True)) := ⟨⟨trivial, ⟨trivial, ⟨trivial, ⟨trivial, ⟨trivial, ⟨trivial, ⟨F79_ok n p_Left y_6 hx7, ⟨trivial, ⟨trivial, ⟨F79_ok n p_Got y_7 hx8, ⟨⟨trivial, ⟨trivial, ⟨trivial, ⟨trivial, trivial⟩⟩⟩⟩, ⟨trivial, trivial⟩⟩⟩⟩⟩⟩⟩⟩⟩⟩⟩⟩, ⟨trivial, trivial⟩⟩
          refine TS.draw 12 [] [.none, .none, .none, .none, .none, .none, (.call (.row 0) [(.row 9 .str y_6)]), .none, .none, (.call (.row 0) [(.row 9 .str y_7)])] (by kernel_rfl) ?_ ?_
          · apply prop_of ?_ hq
            kernel_rfl
          refine XS.then ?_
          refine TS.seq ?_
          rcases bif_some h with ⟨c9, h⟩ | ⟨c10, h⟩
          · have hq : (True) ∧ ((True) ∧ (((True) ∧ (fate == (1 : Int)) = true) ∧ ((True) ∧ ((True) ∧ (True))))) := ⟨trivial, ⟨trivial, ⟨⟨trivial, c9⟩, ⟨trivial, ⟨trivial, trivial⟩⟩⟩⟩⟩
            refine TS.reg [.none, .none, .dec true] ?_ ?_
            · apply prop_of ?_ hq
              kernel_rfl
            refine XS.then ?_
            refine TS.seq ?_
            refine TS.seq ?_
            rcases bif_some h with ⟨c11, h⟩ | ⟨c12, h⟩
            · have hq : (True) ∧ ((True) ∧ ((True) ∧ ((True) ∧ (((True) ∧ (decide (((p_Left.length : Nat) : Int) > (0 : Int))) = true) ∧ ((True) ∧ ((True) ∧ ((True) ∧ ((True) ∧ ((True) ∧ ((True) ∧ ((True) ∧ ((True) ∧ ((True) ∧ (True)))))))))))))) := ⟨trivial, ⟨trivial, ⟨trivial, ⟨trivial, ⟨⟨trivial, c11⟩, ⟨trivial, ⟨trivial, ⟨trivial, ⟨trivial, ⟨trivial, ⟨trivial, ⟨trivial, ⟨trivial, ⟨trivial, trivial⟩⟩⟩⟩⟩⟩⟩⟩⟩⟩⟩⟩⟩⟩
              refine TS.reg [.none, .none, .none, .none, .dec true] ?_ ?_
              · apply prop_of ?_ hq
                kernel_rfl
              refine XS.then ?_
              refine TS.cut (D := Int × (List (List UInt8))) (fun d => match d with | (m2, m4) => (mkTs 96 [(1, (.int .i64 fate)), (2, (.ptr 0 [])), (4, (.ptr 1 [])), (6, (.ptr 2 []))], [(.box 60 (.st (.cons (.int .i64 p_Send) (.cons (.int .i64 p_Want) (.cons (.sl .str p_Left) (.sl .str p_Got)))))), (.box 60 (.st (.cons (.int .i64 (0 : Int)) (.cons (.int .i64 (0 : Int)) (.cons .nilS .nilS))))), (.box 60 (.st (.cons (.int .i64 p_Send) (.cons (.int .i64 m2) (.cons (.row 3) (.row 4)))))), (.row 9 .str y_6), (.row 9 .str m4)])) (fun d => F38_j6 n p_Send y_6 d = some r) ?_ ?_
              · rintro ⟨m2, m4⟩ h
                replace h : (bif subB y_6.length (some (1 : Int)) none then (some ((IntKind.wrap .i64 ((1 : Int) - p_Send)), m2, (y_6.drop 1), (0 : Int), m4)) else none) = some r := h
                refine XS.then ?_
                refine TS.seq ?_
                refine TS.seq ?_
                have hq : (True) ∧ ((True) ∧ ((True) ∧ ((True) ∧ (((True) ∧ (decide (((p_Left.length : Nat) : Int) > (0 : Int))) = true) ∧ ((True) ∧ ((True) ∧ ((True) ∧ (True)))))))) := ⟨trivial, ⟨trivial, ⟨trivial, ⟨trivial, ⟨⟨trivial, c11⟩, ⟨trivial, ⟨trivial, ⟨trivial, trivial⟩⟩⟩⟩⟩⟩⟩⟩
                refine TS.reg [.none, .none, .none, .none, .dec true] ?_ ?_
                · apply prop_of ?_ hq
                  kernel_rfl
                refine XS.then ?_
                refine TS.cond (fate == (1 : Int)) ?_ (fun e => ?_) (fun e => by rw [c9] at e; cases e)
                · kernel_rfl
                refine TS.wk (.frz 3) ?_
                obtain ⟨t13, h⟩ := test_some h
                have hq : ((True) ∧ ((True) ∧ ((subC y_6.length (some (1 : Int)) none) ∧ ((True) ∧ ((True) ∧ ((True) ∧ ((True) ∧ ((True) ∧ ((True) ∧ (True)))))))))) ∧ ((True) ∧ (True)) := ⟨⟨trivial, ⟨trivial, ⟨subB_ok t13, ⟨trivial, ⟨trivial, ⟨trivial, ⟨trivial, ⟨trivial, ⟨trivial, trivial⟩⟩⟩⟩⟩⟩⟩⟩⟩, ⟨trivial, trivial⟩⟩
                refine TS.draw 9 [(7, 2)] [] (by kernel_rfl) ?_ ?_
                · apply prop_of ?_ hq
                  kernel_rfl
                refine XS.then ?_
                refine TS.seq ?_
                have hq : (True) ∧ ((True) ∧ ((True) ∧ (True))) := ⟨trivial, ⟨trivial, ⟨trivial, trivial⟩⟩⟩
                refine TS.reg [] ?_ ?_
                · apply prop_of ?_ hq
                  kernel_rfl
                refine XS.then ?_
                refine TS.ret ?_
                obtain rfl : ((IntKind.wrap .i64 ((1 : Int) - p_Send)), m2, (y_6.drop 1), (0 : Int), m4) = r := Option.some.inj h
                exact XS.fin [4] ((True) ∧ ((True) ∧ (True))) (by kernel_rfl) ⟨trivial, ⟨trivial, trivial⟩⟩
              · rcases bif_some h with ⟨c14, h⟩ | ⟨c15, h⟩
                · refine TS.cond (p_Send == p_Want) ?_ (fun e => ?_) (fun e => by rw [c14] at e; cases e)
                  · kernel_rfl
                  obtain ⟨t16, h⟩ := test_some h
                  obtain ⟨t17, h⟩ := test_some h
                  have hq : ((True) ∧ ((True) ∧ ((True) ∧ ((True) ∧ ((inR (0 : Int) p_Left.length) ∧ ((True) ∧ (((0 < 1 ∧ True) ∧ (True)) ∧ ((y_7.length + ([(p_Left.getD 0 ([] : List UInt8))]).length ≤ 17179869184) ∧ ((True) ∧ ((True) ∧ ((True) ∧ ((True) ∧ ((True) ∧ ((True) ∧ (True))))))))))))))) ∧ ((True) ∧ (True)) := ⟨⟨trivial, ⟨trivial, ⟨trivial, ⟨trivial, ⟨inb_ok t16, ⟨trivial, ⟨⟨⟨by decide, trivial⟩, trivial⟩, ⟨of_decide_eq_true t17, ⟨trivial, ⟨trivial, ⟨trivial, ⟨trivial, ⟨trivial, ⟨trivial, trivial⟩⟩⟩⟩⟩⟩⟩⟩⟩⟩⟩⟩⟩⟩, ⟨trivial, trivial⟩⟩
                  refine TS.draw 14 [(7, 3), (12, 4)] [] (by kernel_rfl) ?_ ?_
                  · apply prop_of ?_ hq
                    kernel_rfl
                  refine XS.reAny [0, 1, 4, 2, 6] (mkMask 96 [1, 2, 4, 6]) ((IntKind.wrap .i64 ((1 : Int) - p_Want)), (y_7 ++ [(p_Left.getD 0 ([] : List UInt8))])) h ?_
                  kernel_rfl
                · refine TS.cond (p_Send == p_Want) ?_ (fun e => by rw [c15] at e; cases e) (fun e => ?_)
                  · kernel_rfl
                  refine TS.skip ?_
                  refine XS.reAny [0, 1, 4, 2, 3] (mkMask 96 [1, 2, 4, 6]) (p_Want, y_7) h ?_
                  kernel_rfl
            · have hq : (True) ∧ ((True) ∧ ((True) ∧ ((True) ∧ (((True) ∧ (decide (((p_Left.length : Nat) : Int) > (0 : Int))) = false) ∧ ((True) ∧ ((True) ∧ ((True) ∧ (True)))))))) := ⟨trivial, ⟨trivial, ⟨trivial, ⟨trivial, ⟨⟨trivial, c12⟩, ⟨trivial, ⟨trivial, ⟨trivial, trivial⟩⟩⟩⟩⟩⟩⟩⟩
              refine TS.reg [.none, .none, .none, .none, .dec false] ?_ ?_
              · apply prop_of ?_ hq
                kernel_rfl
              refine XS.then ?_
              refine TS.no ?_ ?_
              · kernel_rfl
              refine TS.skip ?_
              refine XS.then ?_
              refine TS.seq ?_
              refine TS.seq ?_
              have hq : (True) ∧ ((True) ∧ ((True) ∧ ((True) ∧ (((True) ∧ (decide (((p_Left.length : Nat) : Int) > (0 : Int))) = false) ∧ ((True) ∧ (True)))))) := ⟨trivial, ⟨trivial, ⟨trivial, ⟨trivial, ⟨⟨trivial, c12⟩, ⟨trivial, trivial⟩⟩⟩⟩⟩⟩
              refine TS.reg [.none, .none, .none, .none, .dec false] ?_ ?_
              · apply prop_of ?_ hq
                kernel_rfl
              refine XS.then ?_
              refine TS.no ?_ ?_
              · kernel_rfl
              refine TS.skip ?_
              refine XS.then ?_
              refine TS.seq ?_
              have hq : (True) ∧ ((True) ∧ ((True) ∧ (True))) := ⟨trivial, ⟨trivial, ⟨trivial, trivial⟩⟩⟩
              refine TS.reg [] ?_ ?_
              · apply prop_of ?_ hq
                kernel_rfl
              refine XS.then ?_
              refine TS.ret ?_
              obtain rfl : (p_Send, p_Want, y_6, (0 : Int), y_7) = r := Option.some.inj h
              refine XS.wk (.frz 2) ?_
              exact XS.fin [3] ((True) ∧ ((True) ∧ (True))) (by kernel_rfl) ⟨trivial, ⟨trivial, trivial⟩⟩
          · have hq : (True) ∧ ((True) ∧ (((True) ∧ (fate == (1 : Int)) = false) ∧ ((True) ∧ ((True) ∧ ((True) ∧ ((True) ∧ (True))))))) := ⟨trivial, ⟨trivial, ⟨⟨trivial, c10⟩, ⟨trivial, ⟨trivial, ⟨trivial, ⟨trivial, trivial⟩⟩⟩⟩⟩⟩⟩
            refine TS.reg [.none, .none, .dec false] ?_ ?_
            · apply prop_of ?_ hq
              kernel_rfl
            refine XS.then ?_
            refine TS.seq ?_
            refine TS.seq ?_
            refine TS.cut (D := Bool) (fun d => match d with | x_2 => (mkTs 96 [(1, (.int .i64 fate)), (2, (.ptr 0 [])), (4, (.ptr 1 [])), (6, (.ptr 2 [])), (65, (.bool x_2))], [(.box 60 (.st (.cons (.int .i64 p_Send) (.cons (.int .i64 p_Want) (.cons (.sl .str p_Left) (.sl .str p_Got)))))), (.box 60 (.st (.cons (.int .i64 (0 : Int)) (.cons (.int .i64 (0 : Int)) (.cons .nilS .nilS))))), (.box 60 (.st (.cons (.int .i64 p_Send) (.cons (.int .i64 p_Want) (.cons (.row 3) (.row 4)))))), (.row 9 .str y_6), (.row 9 .str y_7)])) (fun d => F38_j7 n p_Send p_Want p_Left y_6 y_7 d = some r) ?_ ?_
            · rintro x_2 h
              replace h : (bif x_2 then (bif inb (0 : Int) p_Left.length then (bif (decide (y_7.length + ([(p_Left.getD 0 ([] : List UInt8))]).length ≤ 17179869184)) then (F38_j8 n p_Send p_Left y_6 ((IntKind.wrap .i64 ((1 : Int) - p_Want)), (y_7 ++ [(p_Left.getD 0 ([] : List UInt8))]))) else none) else none) else (F38_j8 n p_Send p_Left y_6 (p_Want, y_7))) = some r := h
              refine XS.then ?_
              refine TS.cut (D := Int × (List (List UInt8))) (fun d => match d with | (m2_2, m4_2) => (mkTs 96 [(1, (.int .i64 fate)), (2, (.ptr 0 [])), (4, (.ptr 1 [])), (6, (.ptr 2 []))], [(.box 60 (.st (.cons (.int .i64 p_Send) (.cons (.int .i64 p_Want) (.cons (.sl .str p_Left) (.sl .str p_Got)))))), (.box 60 (.st (.cons (.int .i64 (0 : Int)) (.cons (.int .i64 (0 : Int)) (.cons .nilS .nilS))))), (.box 60 (.st (.cons (.int .i64 p_Send) (.cons (.int .i64 m2_2) (.cons (.row 3) (.row 4)))))), (.row 9 .str y_6), (.row 9 .str m4_2)])) (fun d => F38_j8 n p_Send p_Left y_6 d = some r) ?_ ?_
              · rintro ⟨m2_2, m4_2⟩ h
                replace h : (bif (decide (((p_Left.length : Nat) : Int) > (0 : Int))) then (some (p_Send, m2_2, y_6, (0 : Int), m4_2)) else (some (p_Send, m2_2, y_6, (0 : Int), m4_2))) = some r := h
                refine XS.then ?_
                refine TS.seq ?_
                refine TS.seq ?_
                rcases bif_some h with ⟨c18, h⟩ | ⟨c19, h⟩
                · have hq : (True) ∧ ((True) ∧ ((True) ∧ ((True) ∧ (((True) ∧ (decide (((p_Left.length : Nat) : Int) > (0 : Int))) = true) ∧ ((True) ∧ ((True) ∧ ((True) ∧ (True)))))))) := ⟨trivial, ⟨trivial, ⟨trivial, ⟨trivial, ⟨⟨trivial, c18⟩, ⟨trivial, ⟨trivial, ⟨trivial, trivial⟩⟩⟩⟩⟩⟩⟩⟩
                  refine TS.reg [.none, .none, .none, .none, .dec true] ?_ ?_
                  · apply prop_of ?_ hq
                    kernel_rfl
                  refine XS.then ?_
                  refine TS.cond (fate == (1 : Int)) ?_ (fun e => by rw [c10] at e; cases e) (fun e => ?_)
                  · kernel_rfl
                  refine TS.skip ?_
                  refine XS.then ?_
                  refine TS.seq ?_
                  have hq : (True) ∧ ((True) ∧ ((True) ∧ (True))) := ⟨trivial, ⟨trivial, ⟨trivial, trivial⟩⟩⟩
                  refine TS.reg [] ?_ ?_
                  · apply prop_of ?_ hq
                    kernel_rfl
                  refine XS.then ?_
                  refine TS.ret ?_
                  obtain rfl : (p_Send, m2_2, y_6, (0 : Int), m4_2) = r := Option.some.inj h
                  refine XS.wk (.frz 3) ?_
                  exact XS.fin [4] ((True) ∧ ((True) ∧ (True))) (by kernel_rfl) ⟨trivial, ⟨trivial, trivial⟩⟩
                · have hq : (True) ∧ ((True) ∧ ((True) ∧ ((True) ∧ (((True) ∧ (decide (((p_Left.length : Nat) : Int) > (0 : Int))) = false) ∧ ((True) ∧ (True)))))) := ⟨trivial, ⟨trivial, ⟨trivial, ⟨trivial, ⟨⟨trivial, c19⟩, ⟨trivial, trivial⟩⟩⟩⟩⟩⟩
                  refine TS.reg [.none, .none, .none, .none, .dec false] ?_ ?_
                  · apply prop_of ?_ hq
                    kernel_rfl
                  refine XS.then ?_
                  refine TS.no ?_ ?_
                  · kernel_rfl
                  refine TS.skip ?_
                  refine XS.then ?_
                  refine TS.seq ?_
                  have hq : (True) ∧ ((True) ∧ ((True) ∧ (True))) := ⟨trivial, ⟨trivial, ⟨trivial, trivial⟩⟩⟩
                  refine TS.reg [] ?_ ?_
                  · apply prop_of ?_ hq
                    kernel_rfl
                  refine XS.then ?_
                  refine TS.ret ?_
                  obtain rfl : (p_Send, m2_2, y_6, (0 : Int), m4_2) = r := Option.some.inj h
                  refine XS.wk (.frz 3) ?_
                  exact XS.fin [4] ((True) ∧ ((True) ∧ (True))) (by kernel_rfl) ⟨trivial, ⟨trivial, trivial⟩⟩
              · rcases bif_some h with ⟨c20, h⟩ | ⟨c21, h⟩
                · refine TS.cond x_2 ?_ (fun e => ?_) (fun e => by rw [c20] at e; cases e)
                  · kernel_rfl
                  obtain ⟨t22, h⟩ := test_some h
                  obtain ⟨t23, h⟩ := test_some h
                  have hq : ((True) ∧ ((True) ∧ ((True) ∧ ((True) ∧ ((inR (0 : Int) p_Left.length) ∧ ((True) ∧ (((0 < 1 ∧ True) ∧ (True)) ∧ ((y_7.length + ([(p_Left.getD 0 ([] : List UInt8))]).length ≤ 17179869184) ∧ ((True) ∧ ((True) ∧ ((True) ∧ ((True) ∧ ((True) ∧ ((True) ∧ (True))))))))))))))) ∧ ((True) ∧ (True)) := ⟨⟨trivial, ⟨trivial, ⟨trivial, ⟨trivial, ⟨inb_ok t22, ⟨trivial, ⟨⟨⟨by decide, trivial⟩, trivial⟩, ⟨of_decide_eq_true t23, ⟨trivial, ⟨trivial, ⟨trivial, ⟨trivial, ⟨trivial, ⟨trivial, trivial⟩⟩⟩⟩⟩⟩⟩⟩⟩⟩⟩⟩⟩⟩, ⟨trivial, trivial⟩⟩
                  refine TS.draw 14 [(7, 4), (12, 2)] [] (by kernel_rfl) ?_ ?_
                  · apply prop_of ?_ hq
                    kernel_rfl
                  refine XS.reAny [0, 1, 2, 3, 6] (mkMask 96 [1, 2, 4, 6]) ((IntKind.wrap .i64 ((1 : Int) - p_Want)), (y_7 ++ [(p_Left.getD 0 ([] : List UInt8))])) h ?_
                  kernel_rfl
                · refine TS.cond x_2 ?_ (fun e => by rw [c21] at e; cases e) (fun e => ?_)
                  · kernel_rfl
                  refine TS.skip ?_
                  refine XS.reAny [0, 1, 2, 3, 4] (mkMask 96 [1, 2, 4, 6]) (p_Want, y_7) h ?_
                  kernel_rfl
            · rcases bif_some h with ⟨c24, h⟩ | ⟨c25, h⟩
              · rcases bif_some h with ⟨c26, h⟩ | ⟨c27, h⟩
                · have hq : (True) ∧ ((True) ∧ ((True) ∧ ((True) ∧ (((True) ∧ (decide (((p_Left.length : Nat) : Int) > (0 : Int))) = true) ∧ ((True) ∧ ((True) ∧ (((True) ∧ (fate == (3 : Int)) = true) ∧ ((True) ∧ ((True) ∧ ((True) ∧ ((True) ∧ ((True) ∧ ((True) ∧ (True)))))))))))))) := ⟨trivial, ⟨trivial, ⟨trivial, ⟨trivial, ⟨⟨trivial, c24⟩, ⟨trivial, ⟨trivial, ⟨⟨trivial, c26⟩, ⟨trivial, ⟨trivial, ⟨trivial, ⟨trivial, ⟨trivial, ⟨trivial, trivial⟩⟩⟩⟩⟩⟩⟩⟩⟩⟩⟩⟩⟩⟩
                  refine TS.reg [.none, .none, .none, .none, .dec true, .none, .none, .dec true] ?_ ?_
                  · apply prop_of ?_ hq
                    kernel_rfl
                  refine XS.reAny [0, 1, 4, 2, 3] (mkMask 96 [1, 2, 4, 6, 65]) (p_Send == p_Want) h ?_
                  kernel_rfl
                · have hq : (True) ∧ ((True) ∧ ((True) ∧ ((True) ∧ (((True) ∧ (decide (((p_Left.length : Nat) : Int) > (0 : Int))) = true) ∧ ((True) ∧ ((True) ∧ (((True) ∧ (fate == (3 : Int)) = false) ∧ ((True) ∧ (True))))))))) := ⟨trivial, ⟨trivial, ⟨trivial, ⟨trivial, ⟨⟨trivial, c24⟩, ⟨trivial, ⟨trivial, ⟨⟨trivial, c27⟩, ⟨trivial, trivial⟩⟩⟩⟩⟩⟩⟩⟩⟩
                  refine TS.reg [.none, .none, .none, .none, .dec true, .none, .none, .dec false] ?_ ?_
                  · apply prop_of ?_ hq
                    kernel_rfl
                  refine XS.reAny [0, 1, 4, 2, 3] (mkMask 96 [1, 2, 4, 6, 65]) false h ?_
                  kernel_rfl
              · have hq : (True) ∧ ((True) ∧ ((True) ∧ ((True) ∧ (((True) ∧ (decide (((p_Left.length : Nat) : Int) > (0 : Int))) = false) ∧ ((True) ∧ ((True) ∧ ((True) ∧ (True)))))))) := ⟨trivial, ⟨trivial, ⟨trivial, ⟨trivial, ⟨⟨trivial, c25⟩, ⟨trivial, ⟨trivial, ⟨trivial, trivial⟩⟩⟩⟩⟩⟩⟩⟩
                refine TS.reg [.none, .none, .none, .none, .dec false] ?_ ?_
                · apply prop_of ?_ hq
                  kernel_rfl
                refine XS.reAny [0, 1, 4, 2, 3] (mkMask 96 [1, 2, 4, 6, 65]) false h ?_
                kernel_rfl
  · obtain ⟨y_8, hx28, h⟩ := bind_some' h
    rcases bif_some h with ⟨c29, h⟩ | ⟨c30, h⟩
    · have hq : (True) ∧ ((True) ∧ ((PureC Try.prog 66 [(.int .i64 p_Send), (.int .i64 (0 : Int)), (.int .i64 (1 : Int))] (.bool y_8) []) ∧ ((True) ∧ (((True) ∧ (!y_8) = true) ∧ ((True) ∧ ((True) ∧ ((True) ∧ (True)))))))) := ⟨trivial, ⟨trivial, ⟨F66_ok n p_Send (0 : Int) (1 : Int) y_8 hx28, ⟨trivial, ⟨⟨trivial, c29⟩, ⟨trivial, ⟨trivial, ⟨trivial, trivial⟩⟩⟩⟩⟩⟩⟩⟩
      refine TS.reg [.none, .none, (.call (.bool y_8) []), .none, .dec true] ?_ ?_
      · apply prop_of ?_ hq
        kernel_rfl
      refine XS.reAny [0, 1] (mkMask 96 [1, 2, 4, 22]) true h ?_
      kernel_rfl
    · obtain ⟨y_9, hx31, h⟩ := bind_some' h
      rcases bif_some h with ⟨c32, h⟩ | ⟨c33, h⟩
      · have hq : (True) ∧ ((True) ∧ ((PureC Try.prog 66 [(.int .i64 p_Send), (.int .i64 (0 : Int)), (.int .i64 (1 : Int))] (.bool y_8) []) ∧ ((True) ∧ (((True) ∧ (!y_8) = false) ∧ ((True) ∧ ((True) ∧ ((PureC Try.prog 66 [(.int .i64 p_Want), (.int .i64 (0 : Int)), (.int .i64 (1 : Int))] (.bool y_9) []) ∧ ((True) ∧ ((True) ∧ (((True) ∧ (!y_9) = true) ∧ ((True) ∧ (True)))))))))))) := ⟨trivial, ⟨trivial, ⟨F66_ok n p_Send (0 : Int) (1 : Int) y_8 hx28, ⟨trivial, ⟨⟨trivial, c30⟩, ⟨trivial, ⟨trivial, ⟨F66_ok n p_Want (0 : Int) (1 : Int) y_9 hx31, ⟨trivial, ⟨trivial, ⟨⟨trivial, c32⟩, ⟨trivial, trivial⟩⟩⟩⟩⟩⟩⟩⟩⟩⟩⟩⟩
        refine TS.reg [.none, .none, (.call (.bool y_8) []), .none, .dec false, .none, .none, (.call (.bool y_9) []), .none, .none, .dec true] ?_ ?_
        · apply prop_of ?_ hq
          kernel_rfl
        refine XS.reAny [0, 1] (mkMask 96 [1, 2, 4, 22]) true h ?_
        kernel_rfl
      · obtain ⟨y_10, hx34, h⟩ := bind_some' h
        have hq : (True) ∧ ((True) ∧ ((PureC Try.prog 66 [(.int .i64 p_Send), (.int .i64 (0 : Int)), (.int .i64 (1 : Int))] (.bool y_8) []) ∧ ((True) ∧ (((True) ∧ (!y_8) = false) ∧ ((True) ∧ ((True) ∧ ((PureC Try.prog 66 [(.int .i64 p_Want), (.int .i64 (0 : Int)), (.int .i64 (1 : Int))] (.bool y_9) []) ∧ ((True) ∧ ((True) ∧ (((True) ∧ (!y_9) = false) ∧ ((True) ∧ ((PureC Try.prog 80 [(.int .i64 fate)] (.bool y_10) []) ∧ ((True) ∧ ((True) ∧ (True))))))))))))))) := ⟨trivial, ⟨trivial, ⟨F66_ok n p_Send (0 : Int) (1 : Int) y_8 hx28, ⟨trivial, ⟨⟨trivial, c30⟩, ⟨trivial, ⟨trivial, ⟨F66_ok n p_Want (0 : Int) (1 : Int) y_9 hx31, ⟨trivial, ⟨trivial, ⟨⟨trivial, c33⟩, ⟨trivial, ⟨F80_ok n fate y_10 hx34, ⟨trivial, ⟨trivial, trivial⟩⟩⟩⟩⟩⟩⟩⟩⟩⟩⟩⟩⟩⟩⟩
        refine TS.reg [.none, .none, (.call (.bool y_8) []), .none, .dec false, .none, .none, (.call (.bool y_9) []), .none, .none, .dec false, .none, (.call (.bool y_10) [])] ?_ ?_
        · apply prop_of ?_ hq
          kernel_rfl
        refine XS.reAny [0, 1] (mkMask 96 [1, 2, 4, 22]) (!y_10) h ?_
        kernel_rfl

/-! plugtree/pipe.New -/
def F39 (n : Nat) (texts : List (List UInt8)) : Option (Int × Int × Int × (List (List UInt8))) := (bif (decide (((texts.length : Nat) : Int) > (200 : Int))) then (some ((0 : Int), (0 : Int), (2 : Int), ([] : List (List UInt8)))) else ((F79 n texts).bind fun y_5 => (some ((0 : Int), (0 : Int), (0 : Int), y_5))))
theorem F39_ok (n : Nat) (texts : List (List UInt8)) (r : Int × Int × Int × (List (List UInt8))) (h : F39 n texts = some r) : PureC Try.prog 39 [(.sl .str texts)] (.tup (.cons (.st (.cons (.int .i64 r.1) (.cons (.int .i64 r.2.1) (.cons (.row 0) .nilS)))) (.cons (.int .i64 r.2.2.1) .nil))) [(.row 9 .str r.2.2.2)] := by
  refine PureC.mkS Try.func39 rfl rfl ?_
  intro w0 fz0 hfz
  replace h : (bif (decide (((texts.length : Nat) : Int) > (200 : Int))) then (some ((0 : Int), (0 : Int), (2 : Int), ([] : List (List UInt8)))) else ((F79 n texts).bind fun y_5 => (some ((0 : Int), (0 : Int), (0 : Int), y_5)))) = some r := h
  refine TS.seq ?_
  have hq : (True) ∧ ((True) ∧ (True)) := ⟨trivial, ⟨trivial, trivial⟩⟩
  refine TS.reg [] ?_ ?_
  · apply prop_of ?_ hq
    kernel_rfl
  refine XS.then ?_
  refine TS.seq ?_
  refine TS.seq ?_
  have hq : (True) ∧ ((True) ∧ ((True) ∧ (True))) := ⟨trivial, ⟨trivial, ⟨trivial, trivial⟩⟩⟩
  refine TS.reg [] ?_ ?_
  · apply prop_of ?_ hq
    kernel_rfl
  refine XS.then ?_
  rcases bif_some h with ⟨c1, h⟩ | ⟨c2, h⟩
  · refine TS.cond (decide (((texts.length : Nat) : Int) > (200 : Int))) ?_ (fun e => ?_) (fun e => by rw [c1] at e; cases e)
    · kernel_rfl
    refine TS.seq ?_
    have hq : (True) ∧ ((True) ∧ ((True) ∧ (True))) := ⟨trivial, ⟨trivial, ⟨trivial, trivial⟩⟩⟩
    refine TS.reg [] ?_ ?_
    · apply prop_of ?_ hq
      kernel_rfl
    refine XS.then ?_
    refine TS.ret ?_
    refine XS.passR ?_
    obtain rfl : ((0 : Int), (0 : Int), (2 : Int), ([] : List (List UInt8))) = r := Option.some.inj h
    refine XS.wk (.row true 0 [true, true, false] 9 .str) ?_
    exact XS.fin [1] ((True) ∧ ((True) ∧ (True))) (by kernel_rfl) ⟨trivial, ⟨trivial, trivial⟩⟩
  · refine TS.cond (decide (((texts.length : Nat) : Int) > (200 : Int))) ?_ (fun e => by rw [c2] at e; cases e) (fun e => ?_)
    · kernel_rfl
    refine TS.skip ?_
    refine XS.then ?_
    refine TS.seq ?_
    obtain ⟨y_5, hx3, h⟩ := bind_some' h
    have hq : (True) ∧ ((PureC Try.prog 79 [(.sl .str texts)] (.row 0) [(.row 9 .str y_5)]) ∧ (((True) ∧ (True)) ∧ ((True) ∧ ((True) ∧ (True))))) := ⟨trivial, ⟨F79_ok n texts y_5 hx3, ⟨⟨trivial, trivial⟩, ⟨trivial, ⟨trivial, trivial⟩⟩⟩⟩⟩
    refine TS.reg [.none, (.call (.row 0) [(.row 9 .str y_5)])] ?_ ?_
    · apply prop_of ?_ hq
      kernel_rfl
    refine XS.then ?_
    refine TS.ret ?_
    obtain rfl : ((0 : Int), (0 : Int), (0 : Int), y_5) = r := Option.some.inj h
    exact XS.fin [1] ((True) ∧ ((True) ∧ (True))) (by kernel_rfl) ⟨trivial, ⟨trivial, trivial⟩⟩

/-! slices.Equal[[]string,string] -/
def F28_l2 (n : Nat) (s1 : List (List UInt8)) (s2 : List (List UInt8)) (k28_2 : Int → Option Bool) : Int → Option Bool
  | x => (bif (decide (x < ((s1.length : Nat) : Int))) then (bif inb x s1.length then (bif inb x s2.length then (bif (!((s1.getD x.toNat ([] : List UInt8)) == (s2.getD x.toNat ([] : List UInt8)))) then (some false) else (k28_2 (IntKind.wrap .i64 (x + (1 : Int))))) else none) else none) else (some true))
def F28 (n : Nat) (s1 : List (List UInt8)) (s2 : List (List UInt8)) : Option Bool := (bif (((s1.length : Nat) : Int) != ((s2.length : Nat) : Int)) then (some false) else (loopF (F28_l2 n s1 s2) n (0 : Int)))
theorem F28_ok (n : Nat) (s1 : List (List UInt8)) (s2 : List (List UInt8)) (r : Bool) (h : F28 n s1 s2 = some r) : PureC Try.prog 28 [(.sl .str s1), (.sl .str s2)] (.bool r) [] := by
  refine PureC.mkS Try.func28 rfl rfl ?_
  intro w0 fz0 hfz
  replace h : (bif (((s1.length : Nat) : Int) != ((s2.length : Nat) : Int)) then (some false) else (loopF (F28_l2 n s1 s2) n (0 : Int))) = some r := h
  refine TS.seq ?_
  have hq : (True) ∧ (True) := ⟨trivial, trivial⟩
  refine TS.reg [] ?_ ?_
  · apply prop_of ?_ hq
    kernel_rfl
  refine XS.then ?_
  refine TS.seq ?_
  refine TS.seq ?_
  have hq : (True) ∧ ((True) ∧ ((True) ∧ ((True) ∧ ((True) ∧ (True))))) := ⟨trivial, ⟨trivial, ⟨trivial, ⟨trivial, ⟨trivial, trivial⟩⟩⟩⟩⟩
  refine TS.reg [] ?_ ?_
  · apply prop_of ?_ hq
    kernel_rfl
  refine XS.then ?_
  rcases bif_some h with ⟨c1, h⟩ | ⟨c2, h⟩
  · refine TS.cond (((s1.length : Nat) : Int) != ((s2.length : Nat) : Int)) ?_ (fun e => ?_) (fun e => by rw [c1] at e; cases e)
    · kernel_rfl
    refine TS.seq ?_
    have hq : (True) ∧ (True) := ⟨trivial, trivial⟩
    refine TS.reg [] ?_ ?_
    · apply prop_of ?_ hq
      kernel_rfl
    refine XS.then ?_
    refine TS.ret ?_
    refine XS.passR ?_
    obtain rfl : false = r := Option.some.inj h
    exact XS.fin [] ((True) ∧ (True)) (by kernel_rfl) ⟨trivial, trivial⟩
  · refine TS.cond (((s1.length : Nat) : Int) != ((s2.length : Nat) : Int)) ?_ (fun e => by rw [c2] at e; cases e) (fun e => ?_)
    · kernel_rfl
    refine TS.skip ?_
    refine XS.then ?_
    refine TS.seq ?_
    refine TS.seq ?_
    have hq : (True) ∧ ((True) ∧ ((True) ∧ (True))) := ⟨trivial, ⟨trivial, ⟨trivial, trivial⟩⟩⟩
    refine TS.reg [] ?_ ?_
    · apply prop_of ?_ hq
      kernel_rfl
    refine XS.then ?_
    refine TS.block ?_
    refine TS.reLoop [] (mkMask 26 [0, 1, 12, 13]) (D := Int) (fun d => match d with | x => (mkTs 26 [(0, (.sl .str s1)), (1, (.sl .str s2)), (12, (.int .i64 ((s1.length : Nat) : Int))), (13, (.int .i64 x))], [])) (fun n' d => loopF (F28_l2 n s1 s2) n' d = some r) n (0 : Int) h ?_ (fun d => loopF_zero _ d r) ?_
    · kernel_rfl
    · rintro n2 x h
      replace h : (bif (decide (x < ((s1.length : Nat) : Int))) then (bif inb x s1.length then (bif inb x s2.length then (bif (!((s1.getD x.toNat ([] : List UInt8)) == (s2.getD x.toNat ([] : List UInt8)))) then (some false) else ((loopF (F28_l2 n s1 s2) n2) (IntKind.wrap .i64 (x + (1 : Int))))) else none) else none) else (some true)) = some r := h
      refine TS.seq ?_
      have hq : (True) ∧ (True) := ⟨trivial, trivial⟩
      refine TS.reg [] ?_ ?_
      · apply prop_of ?_ hq
        kernel_rfl
      refine XS.then ?_
      refine TS.seq ?_
      rcases bif_some h with ⟨c3, h⟩ | ⟨c4, h⟩
      · refine TS.cond (decide (x < ((s1.length : Nat) : Int))) ?_ (fun e => ?_) (fun e => by rw [c3] at e; cases e)
        · kernel_rfl
        refine TS.skip ?_
        refine XS.then ?_
        refine TS.seq ?_
        refine TS.block ?_
        refine TS.seq ?_
        have hq : (True) ∧ ((True) ∧ (True)) := ⟨trivial, ⟨trivial, trivial⟩⟩
        refine TS.reg [] ?_ ?_
        · apply prop_of ?_ hq
          kernel_rfl
        refine XS.then ?_
        refine TS.seq ?_
        obtain ⟨t5, h⟩ := test_some h
        obtain ⟨t6, h⟩ := test_some h
        have hq : ((True) ∧ ((True) ∧ ((inR x s1.length) ∧ ((True) ∧ ((True) ∧ ((True) ∧ ((inR x s2.length) ∧ ((True) ∧ ((True) ∧ (True)))))))))) ∧ (True) := ⟨⟨trivial, ⟨trivial, ⟨inb_ok t5, ⟨trivial, ⟨trivial, ⟨trivial, ⟨inb_ok t6, ⟨trivial, ⟨trivial, trivial⟩⟩⟩⟩⟩⟩⟩⟩⟩, trivial⟩
        refine TS.draw 9 [] [] (by kernel_rfl) ?_ ?_
        · apply prop_of ?_ hq
          kernel_rfl
        refine XS.then ?_
        rcases bif_some h with ⟨c7, h⟩ | ⟨c8, h⟩
        · refine TS.cond (!((s1.getD x.toNat ([] : List UInt8)) == (s2.getD x.toNat ([] : List UInt8)))) ?_ (fun e => ?_) (fun e => by rw [c7] at e; cases e)
          · kernel_rfl
          refine TS.seq ?_
          have hq : (True) ∧ (True) := ⟨trivial, trivial⟩
          refine TS.reg [] ?_ ?_
          · apply prop_of ?_ hq
            kernel_rfl
          refine XS.then ?_
          refine TS.ret ?_
          refine XS.blockRet ?_
          refine XS.passR ?_
          refine XS.passR ?_
          refine XS.blockRet ?_
          refine XS.passR ?_
          obtain rfl : false = r := Option.some.inj h
          exact XS.fin [] ((True) ∧ (True)) (by kernel_rfl) ⟨trivial, trivial⟩
        · refine TS.cond (!((s1.getD x.toNat ([] : List UInt8)) == (s2.getD x.toNat ([] : List UInt8)))) ?_ (fun e => by rw [c8] at e; cases e) (fun e => ?_)
          · kernel_rfl
          refine TS.skip ?_
          refine XS.blockEnd ?_
          refine XS.then ?_
          have hq : (True) ∧ ((True) ∧ (True)) := ⟨trivial, ⟨trivial, trivial⟩⟩
          refine TS.reg [] ?_ ?_
          · apply prop_of ?_ hq
            kernel_rfl
          refine XS.reAny [] (mkMask 26 [0, 1, 12, 13]) (IntKind.wrap .i64 (x + (1 : Int))) h ?_
          kernel_rfl
      · refine TS.cond (decide (x < ((s1.length : Nat) : Int))) ?_ (fun e => by rw [c4] at e; cases e) (fun e => ?_)
        · kernel_rfl
        refine TS.exit ?_
        refine XS.passE ?_
        refine XS.passE ?_
        refine XS.out ?_
        refine XS.then ?_
        refine TS.seq ?_
        have hq : (True) ∧ (True) := ⟨trivial, trivial⟩
        refine TS.reg [] ?_ ?_
        · apply prop_of ?_ hq
          kernel_rfl
        refine XS.then ?_
        refine TS.ret ?_
        obtain rfl : true = r := Option.some.inj h
        exact XS.fin [] ((True) ∧ (True)) (by kernel_rfl) ⟨trivial, trivial⟩

/-! plugtree/plugref.SamePipe -/
def F40 (n : Nat) (a_Send : Int) (a_Want : Int) (a_Left : List (List UInt8)) (a_Got : List (List UInt8)) (b_Send : Int) (b_Want : Int) (b_Left : List (List UInt8)) (b_Got : List (List UInt8)) : Option Bool := (bif (a_Send == b_Send) then (bif (a_Want == b_Want) then ((F28 n a_Left b_Left).bind fun y_2 => (bif y_2 then ((F28 n a_Got b_Got).bind fun y_3 => (some y_3)) else (some false))) else (some false)) else (some false))
theorem F40_ok (n : Nat) (a_Send : Int) (a_Want : Int) (a_Left : List (List UInt8)) (a_Got : List (List UInt8)) (b_Send : Int) (b_Want : Int) (b_Left : List (List UInt8)) (b_Got : List (List UInt8)) (r : Bool) (h : F40 n a_Send a_Want a_Left a_Got b_Send b_Want b_Left b_Got = some r) : PureC Try.prog 40 [(.st (.cons (.int .i64 a_Send) (.cons (.int .i64 a_Want) (.cons (.sl .str a_Left) (.sl .str a_Got))))), (.st (.cons (.int .i64 b_Send) (.cons (.int .i64 b_Want) (.cons (.sl .str b_Left) (.sl .str b_Got)))))] (.bool r) [] := by
  refine PureC.mkS Try.func40 rfl rfl ?_
  intro w0 fz0 hfz
  replace h : (bif (a_Send == b_Send) then (bif (a_Want == b_Want) then ((F28 n a_Left b_Left).bind fun y_2 => (bif y_2 then ((F28 n a_Got b_Got).bind fun y_3 => (some y_3)) else (some false))) else (some false)) else (some false)) = some r := h
  refine TS.seq ?_
  have hq : (True) ∧ ((True) ∧ ((True) ∧ (True))) := ⟨trivial, ⟨trivial, ⟨trivial, trivial⟩⟩⟩
  refine TS.reg [] ?_ ?_
  · apply prop_of ?_ hq
    kernel_rfl
  refine XS.then ?_
  refine TS.seq ?_
  rcases bif_some h with ⟨c1, h⟩ | ⟨c2, h⟩
  · rcases bif_some h with ⟨c3, h⟩ | ⟨c4, h⟩
    · obtain ⟨y_2, hx5, h⟩ := bind_some' h
      rcases bif_some h with ⟨c6, h⟩ | ⟨c7, h⟩
      · obtain ⟨y_3, hx8, h⟩ := bind_some' h
        have hq : (True) ∧ ((True) ∧ ((True) ∧ ((True) ∧ ((True) ∧ (((True) ∧ (a_Send == b_Send) = true) ∧ ((True) ∧ ((True) ∧ ((True) ∧ ((True) ∧ ((True) ∧ ((True) ∧ (((True) ∧ (a_Want == b_Want) = true) ∧ ((True) ∧ ((True) ∧ ((True) ∧ ((True) ∧ ((PureC Try.prog 28 [(.sl .str a_Left), (.sl .str b_Left)] (.bool y_2) []) ∧ ((True) ∧ (((True) ∧ y_2 = true) ∧ ((True) ∧ ((True) ∧ ((True) ∧ ((True) ∧ ((PureC Try.prog 28 [(.sl .str a_Got), (.sl .str b_Got)] (.bool y_3) []) ∧ ((True) ∧ ((True) ∧ (True))))))))))))))))))))))))))) := ⟨trivial, ⟨trivial, ⟨trivial, ⟨trivial, ⟨trivial, ⟨⟨trivial, c1⟩, ⟨trivial, ⟨trivial, ⟨trivial, ⟨trivial, ⟨trivial, ⟨trivial, ⟨⟨trivial, c3⟩, ⟨trivial, ⟨trivial, ⟨trivial, ⟨trivial, ⟨F28_ok n a_Left b_Left y_2 hx5, ⟨trivial, ⟨⟨trivial, c6⟩, ⟨trivial, ⟨trivial, ⟨trivial, ⟨trivial, ⟨F28_ok n a_Got b_Got y_3 hx8, ⟨trivial, ⟨trivial, trivial⟩⟩⟩⟩⟩⟩⟩⟩⟩⟩⟩⟩⟩⟩⟩⟩⟩⟩⟩⟩⟩⟩⟩⟩⟩⟩⟩
        refine TS.reg [.none, .none, .none, .none, .none, .dec true, .none, .none, .none, .none, .none, .none, .dec true, .none, .none, .none, .none, (.call (.bool y_2) []), .none, .dec true, .none, .none, .none, .none, (.call (.bool y_3) [])] ?_ ?_
        · apply prop_of ?_ hq
          kernel_rfl
        refine XS.then ?_
        refine TS.ret ?_
        obtain rfl : y_3 = r := Option.some.inj h
        exact XS.fin [] ((True) ∧ (True)) (by kernel_rfl) ⟨trivial, trivial⟩
      · have hq : (True) ∧ ((True) ∧ ((True) ∧ ((True) ∧ ((True) ∧ (((True) ∧ (a_Send == b_Send) = true) ∧ ((True) ∧ ((True) ∧ ((True) ∧ ((True) ∧ ((True) ∧ ((True) ∧ (((True) ∧ (a_Want == b_Want) = true) ∧ ((True) ∧ ((True) ∧ ((True) ∧ ((True) ∧ ((PureC Try.prog 28 [(.sl .str a_Left), (.sl .str b_Left)] (.bool y_2) []) ∧ ((True) ∧ (((True) ∧ y_2 = false) ∧ ((True) ∧ ((True) ∧ (True)))))))))))))))))))))) := ⟨trivial, ⟨trivial, ⟨trivial, ⟨trivial, ⟨trivial, ⟨⟨trivial, c1⟩, ⟨trivial, ⟨trivial, ⟨trivial, ⟨trivial, ⟨trivial, ⟨trivial, ⟨⟨trivial, c3⟩, ⟨trivial, ⟨trivial, ⟨trivial, ⟨trivial, ⟨F28_ok n a_Left b_Left y_2 hx5, ⟨trivial, ⟨⟨trivial, c7⟩, ⟨trivial, ⟨trivial, trivial⟩⟩⟩⟩⟩⟩⟩⟩⟩⟩⟩⟩⟩⟩⟩⟩⟩⟩⟩⟩⟩⟩
        refine TS.reg [.none, .none, .none, .none, .none, .dec true, .none, .none, .none, .none, .none, .none, .dec true, .none, .none, .none, .none, (.call (.bool y_2) []), .none, .dec false] ?_ ?_
        · apply prop_of ?_ hq
          kernel_rfl
        refine XS.then ?_
        refine TS.ret ?_
        obtain rfl : false = r := Option.some.inj h
        exact XS.fin [] ((True) ∧ (True)) (by kernel_rfl) ⟨trivial, trivial⟩
    · have hq : (True) ∧ ((True) ∧ ((True) ∧ ((True) ∧ ((True) ∧ (((True) ∧ (a_Send == b_Send) = true) ∧ ((True) ∧ ((True) ∧ ((True) ∧ ((True) ∧ ((True) ∧ ((True) ∧ (((True) ∧ (a_Want == b_Want) = false) ∧ ((True) ∧ ((True) ∧ ((True) ∧ ((True) ∧ (True))))))))))))))))) := ⟨trivial, ⟨trivial, ⟨trivial, ⟨trivial, ⟨trivial, ⟨⟨trivial, c1⟩, ⟨trivial, ⟨trivial, ⟨trivial, ⟨trivial, ⟨trivial, ⟨trivial, ⟨⟨trivial, c4⟩, ⟨trivial, ⟨trivial, ⟨trivial, ⟨trivial, trivial⟩⟩⟩⟩⟩⟩⟩⟩⟩⟩⟩⟩⟩⟩⟩⟩⟩
      refine TS.reg [.none, .none, .none, .none, .none, .dec true, .none, .none, .none, .none, .none, .none, .dec false] ?_ ?_
      · apply prop_of ?_ hq
        kernel_rfl
      refine XS.then ?_
      refine TS.ret ?_
      obtain rfl : false = r := Option.some.inj h
      exact XS.fin [] ((True) ∧ (True)) (by kernel_rfl) ⟨trivial, trivial⟩
  · have hq : (True) ∧ ((True) ∧ ((True) ∧ ((True) ∧ ((True) ∧ (((True) ∧ (a_Send == b_Send) = false) ∧ ((True) ∧ ((True) ∧ ((True) ∧ ((True) ∧ ((True) ∧ ((True) ∧ (True)))))))))))) := ⟨trivial, ⟨trivial, ⟨trivial, ⟨trivial, ⟨trivial, ⟨⟨trivial, c2⟩, ⟨trivial, ⟨trivial, ⟨trivial, ⟨trivial, ⟨trivial, ⟨trivial, trivial⟩⟩⟩⟩⟩⟩⟩⟩⟩⟩⟩⟩
    refine TS.reg [.none, .none, .none, .none, .none, .dec false] ?_ ?_
    · apply prop_of ?_ hq
      kernel_rfl
    refine XS.then ?_
    refine TS.ret ?_
    obtain rfl : false = r := Option.some.inj h
    exact XS.fin [] ((True) ∧ (True)) (by kernel_rfl) ⟨trivial, trivial⟩

/-! plugtree/pluglaw.PipeSteps -/
def F11_j2 (n : Nat) : Bool → Option Bool
  | x => (some x)
def F11 (n : Nat) (p_Send : Int) (p_Want : Int) (p_Left : List (List UInt8)) (p_Got : List (List UInt8)) (fate : Int) (texts : List (List UInt8)) : Option Bool := ((F37 n p_Send p_Want p_Left p_Got fate).bind fun y_2 => ((F38 n p_Send p_Want p_Left p_Got fate).bind fun y_3 => ((F39 n texts).bind fun y_4 => (bif (decide (((texts.length : Nat) : Int) > (200 : Int))) then ((F40 n y_2.1 y_2.2.1 y_2.2.2.2.1 y_2.2.2.2.2 y_3.1 y_3.2.1 y_3.2.2.1 y_3.2.2.2.2).bind fun y_5 => (bif y_5 then (bif (y_2.2.2.1 == y_3.2.2.2.1) then (bif (y_4.2.2.1 == (2 : Int)) then ((F40 n y_4.1 y_4.2.1 y_4.2.2.2 ([] : List (List UInt8)) (0 : Int) (0 : Int) ([] : List (List UInt8)) ([] : List (List UInt8))).bind fun y_6 => (F11_j2 n y_6)) else (F11_j2 n false)) else (F11_j2 n false)) else (F11_j2 n false))) else ((F40 n y_2.1 y_2.2.1 y_2.2.2.2.1 y_2.2.2.2.2 y_3.1 y_3.2.1 y_3.2.2.1 y_3.2.2.2.2).bind fun y_7 => (bif y_7 then (bif (y_2.2.2.1 == y_3.2.2.2.1) then (bif (y_4.2.2.1 == (0 : Int)) then ((F28 n y_4.2.2.2 texts).bind fun y_8 => (bif y_8 then ((F40 n y_4.1 y_4.2.1 y_4.2.2.2 ([] : List (List UInt8)) (0 : Int) (0 : Int) y_4.2.2.2 ([] : List (List UInt8))).bind fun y_9 => (some y_9)) else (some false))) else (some false)) else (some false)) else (some false)))))))
theorem F11_ok (n : Nat) (p_Send : Int) (p_Want : Int) (p_Left : List (List UInt8)) (p_Got : List (List UInt8)) (fate : Int) (texts : List (List UInt8)) (r : Bool) (h : F11 n p_Send p_Want p_Left p_Got fate texts = some r) : PureC Try.prog 11 [(.st (.cons (.int .i64 p_Send) (.cons (.int .i64 p_Want) (.cons (.sl .str p_Left) (.sl .str p_Got))))), (.int .i64 fate), (.sl .str texts)] (.bool r) [] := by
  refine PureC.mkS Try.func11 rfl rfl ?_
  intro w0 fz0 hfz
  replace h : ((F37 n p_Send p_Want p_Left p_Got fate).bind fun y_2 => ((F38 n p_Send p_Want p_Left p_Got fate).bind fun y_3 => ((F39 n texts).bind fun y_4 => (bif (decide (((texts.length : Nat) : Int) > (200 : Int))) then ((F40 n y_2.1 y_2.2.1 y_2.2.2.2.1 y_2.2.2.2.2 y_3.1 y_3.2.1 y_3.2.2.1 y_3.2.2.2.2).bind fun y_5 => (bif y_5 then (bif (y_2.2.2.1 == y_3.2.2.2.1) then (bif (y_4.2.2.1 == (2 : Int)) then ((F40 n y_4.1 y_4.2.1 y_4.2.2.2 ([] : List (List UInt8)) (0 : Int) (0 : Int) ([] : List (List UInt8)) ([] : List (List UInt8))).bind fun y_6 => (F11_j2 n y_6)) else (F11_j2 n false)) else (F11_j2 n false)) else (F11_j2 n false))) else ((F40 n y_2.1 y_2.2.1 y_2.2.2.2.1 y_2.2.2.2.2 y_3.1 y_3.2.1 y_3.2.2.1 y_3.2.2.2.2).bind fun y_7 => (bif y_7 then (bif (y_2.2.2.1 == y_3.2.2.2.1) then (bif (y_4.2.2.1 == (0 : Int)) then ((F28 n y_4.2.2.2 texts).bind fun y_8 => (bif y_8 then ((F40 n y_4.1 y_4.2.1 y_4.2.2.2 ([] : List (List UInt8)) (0 : Int) (0 : Int) y_4.2.2.2 ([] : List (List UInt8))).bind fun y_9 => (some y_9)) else (some false))) else (some false)) else (some false)) else (some false))))))) = some r := h
  refine TS.seq ?_
  have hq : (True) ∧ ((True) ∧ (True)) := ⟨trivial, ⟨trivial, trivial⟩⟩
  refine TS.reg [] ?_ ?_
  · apply prop_of ?_ hq
    kernel_rfl
  refine XS.then ?_
  refine TS.seq ?_
  obtain ⟨y_2, hx1, h⟩ := bind_some' h
  have hq : (True) ∧ ((True) ∧ ((PureC Try.prog 37 [(.st (.cons (.int .i64 p_Send) (.cons (.int .i64 p_Want) (.cons (.sl .str p_Left) (.sl .str p_Got))))), (.int .i64 fate)] (.tup (.cons (.st (.cons (.int .i64 y_2.1) (.cons (.int .i64 y_2.2.1) (.cons (.row 0) (.row 1))))) (.cons (.int .i64 y_2.2.2.1) .nil))) [(.row 9 .str y_2.2.2.2.1), (.row 9 .str y_2.2.2.2.2)]) ∧ ((True) ∧ ((True) ∧ ((True) ∧ ((True) ∧ ((True) ∧ ((True) ∧ (True))))))))) := ⟨trivial, ⟨trivial, ⟨F37_ok n p_Send p_Want p_Left p_Got fate y_2 hx1, ⟨trivial, ⟨trivial, ⟨trivial, ⟨trivial, ⟨trivial, ⟨trivial, trivial⟩⟩⟩⟩⟩⟩⟩⟩⟩
  refine TS.reg [.none, .none, (.call (.tup (.cons (.st (.cons (.int .i64 y_2.1) (.cons (.int .i64 y_2.2.1) (.cons (.row 0) (.row 1))))) (.cons (.int .i64 y_2.2.2.1) .nil))) [(.row 9 .str y_2.2.2.2.1), (.row 9 .str y_2.2.2.2.2)])] ?_ ?_
  · apply prop_of ?_ hq
    kernel_rfl
  refine XS.then ?_
  refine TS.seq ?_
  obtain ⟨y_3, hx2, h⟩ := bind_some' h
  have hq : (True) ∧ ((True) ∧ ((PureC Try.prog 38 [(.st (.cons (.int .i64 p_Send) (.cons (.int .i64 p_Want) (.cons (.sl .str p_Left) (.sl .str p_Got))))), (.int .i64 fate)] (.tup (.cons (.st (.cons (.int .i64 y_3.1) (.cons (.int .i64 y_3.2.1) (.cons (.sl .str y_3.2.2.1) (.row 0))))) (.cons (.int .i64 y_3.2.2.2.1) .nil))) [(.row 9 .str y_3.2.2.2.2)]) ∧ ((True) ∧ ((True) ∧ ((True) ∧ ((True) ∧ ((True) ∧ ((True) ∧ (True))))))))) := ⟨trivial, ⟨trivial, ⟨F38_ok n p_Send p_Want p_Left p_Got fate y_3 hx2, ⟨trivial, ⟨trivial, ⟨trivial, ⟨trivial, ⟨trivial, ⟨trivial, trivial⟩⟩⟩⟩⟩⟩⟩⟩⟩
  refine TS.reg [.none, .none, (.call (.tup (.cons (.st (.cons (.int .i64 y_3.1) (.cons (.int .i64 y_3.2.1) (.cons (.sl .str y_3.2.2.1) (.row 0))))) (.cons (.int .i64 y_3.2.2.2.1) .nil))) [(.row 9 .str y_3.2.2.2.2)])] ?_ ?_
  · apply prop_of ?_ hq
    kernel_rfl
  refine XS.then ?_
  refine TS.seq ?_
  obtain ⟨y_4, hx3, h⟩ := bind_some' h
  have hq : (True) ∧ ((PureC Try.prog 39 [(.sl .str texts)] (.tup (.cons (.st (.cons (.int .i64 y_4.1) (.cons (.int .i64 y_4.2.1) (.cons (.row 0) .nilS)))) (.cons (.int .i64 y_4.2.2.1) .nil))) [(.row 9 .str y_4.2.2.2)]) ∧ ((True) ∧ ((True) ∧ ((True) ∧ ((True) ∧ ((True) ∧ ((True) ∧ (True)))))))) := ⟨trivial, ⟨F39_ok n texts y_4 hx3, ⟨trivial, ⟨trivial, ⟨trivial, ⟨trivial, ⟨trivial, ⟨trivial, trivial⟩⟩⟩⟩⟩⟩⟩⟩
  refine TS.reg [.none, (.call (.tup (.cons (.st (.cons (.int .i64 y_4.1) (.cons (.int .i64 y_4.2.1) (.cons (.row 0) .nilS)))) (.cons (.int .i64 y_4.2.2.1) .nil))) [(.row 9 .str y_4.2.2.2)])] ?_ ?_
  · apply prop_of ?_ hq
    kernel_rfl
  refine XS.then ?_
  refine TS.seq ?_
  refine TS.seq ?_
  have hq : (True) ∧ ((True) ∧ ((True) ∧ (True))) := ⟨trivial, ⟨trivial, ⟨trivial, trivial⟩⟩⟩
  refine TS.reg [] ?_ ?_
  · apply prop_of ?_ hq
    kernel_rfl
  refine XS.then ?_
  rcases bif_some h with ⟨c4, h⟩ | ⟨c5, h⟩
  · refine TS.cond (decide (((texts.length : Nat) : Int) > (200 : Int))) ?_ (fun e => ?_) (fun e => by rw [c4] at e; cases e)
    · kernel_rfl
    refine TS.seq ?_
    refine TS.cut (D := Bool) (fun d => match d with | x => (mkTs 75 [(6, (.bool x))], [])) (fun d => F11_j2 n d = some r) ?_ ?_
    · rintro x h
      replace h : (some x) = some r := h
      refine XS.then ?_
      refine TS.ret ?_
      refine XS.passR ?_
      obtain rfl : x = r := Option.some.inj h
      exact XS.fin [] ((True) ∧ (True)) (by kernel_rfl) ⟨trivial, trivial⟩
    · obtain ⟨y_5, hx6, h⟩ := bind_some' h
      rcases bif_some h with ⟨c7, h⟩ | ⟨c8, h⟩
      · rcases bif_some h with ⟨c9, h⟩ | ⟨c10, h⟩
        · rcases bif_some h with ⟨c11, h⟩ | ⟨c12, h⟩
          · obtain ⟨y_6, hx13, h⟩ := bind_some' h
            have hq : (True) ∧ ((True) ∧ (((((True) ∧ ((True) ∧ ((True) ∧ (True)))) ∧ (((True) ∧ ((True) ∧ ((True) ∧ (True)))) ∧ (True))) ∧ PureC Try.prog 40 [(.st (.cons (.int .i64 y_2.1) (.cons (.int .i64 y_2.2.1) (.cons (.sl .str y_2.2.2.2.1) (.sl .str y_2.2.2.2.2))))), (.st (.cons (.int .i64 y_3.1) (.cons (.int .i64 y_3.2.1) (.cons (.sl .str y_3.2.2.1) (.sl .str y_3.2.2.2.2)))))] (.bool y_5) []) ∧ (((True) ∧ y_5 = true) ∧ ((True) ∧ ((True) ∧ ((True) ∧ ((True) ∧ (((True) ∧ (y_2.2.2.1 == y_3.2.2.2.1) = true) ∧ ((True) ∧ ((True) ∧ ((True) ∧ (((True) ∧ (y_4.2.2.1 == (2 : Int)) = true) ∧ ((True) ∧ ((True) ∧ (((((True) ∧ ((True) ∧ ((True) ∧ (True)))) ∧ (((True) ∧ ((True) ∧ ((True) ∧ (True)))) ∧ (True))) ∧ PureC Try.prog 40 [(.st (.cons (.int .i64 y_4.1) (.cons (.int .i64 y_4.2.1) (.cons (.sl .str y_4.2.2.2) .nilS)))), (.st (.cons (.int .i64 (0 : Int)) (.cons (.int .i64 (0 : Int)) (.cons .nilS .nilS))))] (.bool y_6) []) ∧ ((True) ∧ ((True) ∧ (True)))))))))))))))))) := ⟨trivial, ⟨trivial, ⟨⟨⟨⟨trivial, ⟨trivial, ⟨trivial, trivial⟩⟩⟩, ⟨⟨trivial, ⟨trivial, ⟨trivial, trivial⟩⟩⟩, trivial⟩⟩, F40_ok n y_2.1 y_2.2.1 y_2.2.2.2.1 y_2.2.2.2.2 y_3.1 y_3.2.1 y_3.2.2.1 y_3.2.2.2.2 y_5 hx6⟩, ⟨⟨trivial, c7⟩, ⟨trivial, ⟨trivial, ⟨trivial, ⟨trivial, ⟨⟨trivial, c9⟩, ⟨trivial, ⟨trivial, ⟨trivial, ⟨⟨trivial, c11⟩, ⟨trivial, ⟨trivial, ⟨⟨⟨⟨trivial, ⟨trivial, ⟨trivial, trivial⟩⟩⟩, ⟨⟨trivial, ⟨trivial, ⟨trivial, trivial⟩⟩⟩, trivial⟩⟩, PureC.nilArg 0 [true, true, true] .str (PureC.nilArg 1 [true, true, false] .str (PureC.nilArg 1 [true, true, true] .str (F40_ok n y_4.1 y_4.2.1 y_4.2.2.2 ([] : List (List UInt8)) (0 : Int) (0 : Int) ([] : List (List UInt8)) ([] : List (List UInt8)) y_6 hx13)))⟩, ⟨trivial, ⟨trivial, trivial⟩⟩⟩⟩⟩⟩⟩⟩⟩⟩⟩⟩⟩⟩⟩⟩⟩⟩
            refine TS.reg [.none, .none, (.call (.bool y_5) []), .dec true, .none, .none, .none, .none, .dec true, .none, .none, .none, .dec true, .none, .none, (.call (.bool y_6) [])] ?_ ?_
            · apply prop_of ?_ hq
              kernel_rfl
            refine XS.reAny [] (mkMask 75 [6]) y_6 h ?_
            kernel_rfl
          · have hq : (True) ∧ ((True) ∧ (((((True) ∧ ((True) ∧ ((True) ∧ (True)))) ∧ (((True) ∧ ((True) ∧ ((True) ∧ (True)))) ∧ (True))) ∧ PureC Try.prog 40 [(.st (.cons (.int .i64 y_2.1) (.cons (.int .i64 y_2.2.1) (.cons (.sl .str y_2.2.2.2.1) (.sl .str y_2.2.2.2.2))))), (.st (.cons (.int .i64 y_3.1) (.cons (.int .i64 y_3.2.1) (.cons (.sl .str y_3.2.2.1) (.sl .str y_3.2.2.2.2)))))] (.bool y_5) []) ∧ (((True) ∧ y_5 = true) ∧ ((True) ∧ ((True) ∧ ((True) ∧ ((True) ∧ (((True) ∧ (y_2.2.2.1 == y_3.2.2.2.1) = true) ∧ ((True) ∧ ((True) ∧ ((True) ∧ (((True) ∧ (y_4.2.2.1 == (2 : Int)) = false) ∧ ((True) ∧ ((True) ∧ (True))))))))))))))) := ⟨trivial, ⟨trivial, ⟨⟨⟨⟨trivial, ⟨trivial, ⟨trivial, trivial⟩⟩⟩, ⟨⟨trivial, ⟨trivial, ⟨trivial, trivial⟩⟩⟩, trivial⟩⟩, F40_ok n y_2.1 y_2.2.1 y_2.2.2.2.1 y_2.2.2.2.2 y_3.1 y_3.2.1 y_3.2.2.1 y_3.2.2.2.2 y_5 hx6⟩, ⟨⟨trivial, c7⟩, ⟨trivial, ⟨trivial, ⟨trivial, ⟨trivial, ⟨⟨trivial, c9⟩, ⟨trivial, ⟨trivial, ⟨trivial, ⟨⟨trivial, c12⟩, ⟨trivial, ⟨trivial, trivial⟩⟩⟩⟩⟩⟩⟩⟩⟩⟩⟩⟩⟩⟩⟩
            refine TS.reg [.none, .none, (.call (.bool y_5) []), .dec true, .none, .none, .none, .none, .dec true, .none, .none, .none, .dec false] ?_ ?_
            · apply prop_of ?_ hq
              kernel_rfl
            refine XS.reAny [] (mkMask 75 [6]) false h ?_
            kernel_rfl
        · have hq : (True) ∧ ((True) ∧ (((((True) ∧ ((True) ∧ ((True) ∧ (True)))) ∧ (((True) ∧ ((True) ∧ ((True) ∧ (True)))) ∧ (True))) ∧ PureC Try.prog 40 [(.st (.cons (.int .i64 y_2.1) (.cons (.int .i64 y_2.2.1) (.cons (.sl .str y_2.2.2.2.1) (.sl .str y_2.2.2.2.2))))), (.st (.cons (.int .i64 y_3.1) (.cons (.int .i64 y_3.2.1) (.cons (.sl .str y_3.2.2.1) (.sl .str y_3.2.2.2.2)))))] (.bool y_5) []) ∧ (((True) ∧ y_5 = true) ∧ ((True) ∧ ((True) ∧ ((True) ∧ ((True) ∧ (((True) ∧ (y_2.2.2.1 == y_3.2.2.2.1) = false) ∧ ((True) ∧ ((True) ∧ ((True) ∧ ((True) ∧ (True))))))))))))) := ⟨trivial, ⟨trivial, ⟨⟨⟨⟨trivial, ⟨trivial, ⟨trivial, trivial⟩⟩⟩, ⟨⟨trivial, ⟨trivial, ⟨trivial, trivial⟩⟩⟩, trivial⟩⟩, F40_ok n y_2.1 y_2.2.1 y_2.2.2.2.1 y_2.2.2.2.2 y_3.1 y_3.2.1 y_3.2.2.1 y_3.2.2.2.2 y_5 hx6⟩, ⟨⟨trivial, c7⟩, ⟨trivial, ⟨trivial, ⟨trivial, ⟨trivial, ⟨⟨trivial, c10⟩, ⟨trivial, ⟨trivial, ⟨trivial, ⟨trivial, trivial⟩⟩⟩⟩⟩⟩⟩⟩⟩⟩⟩⟩⟩
          refine TS.reg [.none, .none, (.call (.bool y_5) []), .dec true, .none, .none, .none, .none, .dec false] ?_ ?_
          · apply prop_of ?_ hq
            kernel_rfl
          refine XS.reAny [] (mkMask 75 [6]) false h ?_
          kernel_rfl
      · have hq : (True) ∧ ((True) ∧ (((((True) ∧ ((True) ∧ ((True) ∧ (True)))) ∧ (((True) ∧ ((True) ∧ ((True) ∧ (True)))) ∧ (True))) ∧ PureC Try.prog 40 [(.st (.cons (.int .i64 y_2.1) (.cons (.int .i64 y_2.2.1) (.cons (.sl .str y_2.2.2.2.1) (.sl .str y_2.2.2.2.2))))), (.st (.cons (.int .i64 y_3.1) (.cons (.int .i64 y_3.2.1) (.cons (.sl .str y_3.2.2.1) (.sl .str y_3.2.2.2.2)))))] (.bool y_5) []) ∧ (((True) ∧ y_5 = false) ∧ ((True) ∧ ((True) ∧ ((True) ∧ ((True) ∧ ((True) ∧ ((True) ∧ (True)))))))))) := ⟨trivial, ⟨trivial, ⟨⟨⟨⟨trivial, ⟨trivial, ⟨trivial, trivial⟩⟩⟩, ⟨⟨trivial, ⟨trivial, ⟨trivial, trivial⟩⟩⟩, trivial⟩⟩, F40_ok n y_2.1 y_2.2.1 y_2.2.2.2.1 y_2.2.2.2.2 y_3.1 y_3.2.1 y_3.2.2.1 y_3.2.2.2.2 y_5 hx6⟩, ⟨⟨trivial, c8⟩, ⟨trivial, ⟨trivial, ⟨trivial, ⟨trivial, ⟨trivial, ⟨trivial, trivial⟩⟩⟩⟩⟩⟩⟩⟩⟩⟩
        refine TS.reg [.none, .none, (.call (.bool y_5) []), .dec false] ?_ ?_
        · apply prop_of ?_ hq
          kernel_rfl
        refine XS.reAny [] (mkMask 75 [6]) false h ?_
        kernel_rfl
  · refine TS.cond (decide (((texts.length : Nat) : Int) > (200 : Int))) ?_ (fun e => by rw [c5] at e; cases e) (fun e => ?_)
    · kernel_rfl
    refine TS.skip ?_
    refine XS.then ?_
    refine TS.seq ?_
    obtain ⟨y_7, hx14, h⟩ := bind_some' h
    rcases bif_some h with ⟨c15, h⟩ | ⟨c16, h⟩
    · rcases bif_some h with ⟨c17, h⟩ | ⟨c18, h⟩
      · rcases bif_some h with ⟨c19, h⟩ | ⟨c20, h⟩
        · obtain ⟨y_8, hx21, h⟩ := bind_some' h
          rcases bif_some h with ⟨c22, h⟩ | ⟨c23, h⟩
          · obtain ⟨y_9, hx24, h⟩ := bind_some' h
            have hq : (True) ∧ ((True) ∧ (((((True) ∧ ((True) ∧ ((True) ∧ (True)))) ∧ (((True) ∧ ((True) ∧ ((True) ∧ (True)))) ∧ (True))) ∧ PureC Try.prog 40 [(.st (.cons (.int .i64 y_2.1) (.cons (.int .i64 y_2.2.1) (.cons (.sl .str y_2.2.2.2.1) (.sl .str y_2.2.2.2.2))))), (.st (.cons (.int .i64 y_3.1) (.cons (.int .i64 y_3.2.1) (.cons (.sl .str y_3.2.2.1) (.sl .str y_3.2.2.2.2)))))] (.bool y_7) []) ∧ (((True) ∧ y_7 = true) ∧ ((True) ∧ ((True) ∧ ((True) ∧ ((True) ∧ (((True) ∧ (y_2.2.2.1 == y_3.2.2.2.1) = true) ∧ ((True) ∧ ((True) ∧ ((True) ∧ (((True) ∧ (y_4.2.2.1 == (0 : Int)) = true) ∧ ((True) ∧ ((True) ∧ ((True) ∧ ((((True) ∧ ((True) ∧ (True))) ∧ PureC Try.prog 28 [(.sl .str y_4.2.2.2), (.sl .str texts)] (.bool y_8) []) ∧ ((True) ∧ (((True) ∧ y_8 = true) ∧ ((True) ∧ ((True) ∧ ((True) ∧ (((True) ∧ (True)) ∧ (((((True) ∧ ((True) ∧ ((True) ∧ (True)))) ∧ (((True) ∧ ((True) ∧ ((True) ∧ (True)))) ∧ (True))) ∧ PureC Try.prog 40 [(.st (.cons (.int .i64 y_4.1) (.cons (.int .i64 y_4.2.1) (.cons (.sl .str y_4.2.2.2) .nilS)))), (.st (.cons (.int .i64 (0 : Int)) (.cons (.int .i64 (0 : Int)) (.cons (.sl .str y_4.2.2.2) .nilS))))] (.bool y_9) []) ∧ ((True) ∧ ((True) ∧ (True)))))))))))))))))))))))))) := ⟨trivial, ⟨trivial, ⟨⟨⟨⟨trivial, ⟨trivial, ⟨trivial, trivial⟩⟩⟩, ⟨⟨trivial, ⟨trivial, ⟨trivial, trivial⟩⟩⟩, trivial⟩⟩, F40_ok n y_2.1 y_2.2.1 y_2.2.2.2.1 y_2.2.2.2.2 y_3.1 y_3.2.1 y_3.2.2.1 y_3.2.2.2.2 y_7 hx14⟩, ⟨⟨trivial, c15⟩, ⟨trivial, ⟨trivial, ⟨trivial, ⟨trivial, ⟨⟨trivial, c17⟩, ⟨trivial, ⟨trivial, ⟨trivial, ⟨⟨trivial, c19⟩, ⟨trivial, ⟨trivial, ⟨trivial, ⟨⟨⟨trivial, ⟨trivial, trivial⟩⟩, F28_ok n y_4.2.2.2 texts y_8 hx21⟩, ⟨trivial, ⟨⟨trivial, c22⟩, ⟨trivial, ⟨trivial, ⟨trivial, ⟨⟨trivial, trivial⟩, ⟨⟨⟨⟨trivial, ⟨trivial, ⟨trivial, trivial⟩⟩⟩, ⟨⟨trivial, ⟨trivial, ⟨trivial, trivial⟩⟩⟩, trivial⟩⟩, PureC.nilArg 0 [true, true, true] .str (PureC.nilArg 1 [true, true, true] .str (F40_ok n y_4.1 y_4.2.1 y_4.2.2.2 ([] : List (List UInt8)) (0 : Int) (0 : Int) y_4.2.2.2 ([] : List (List UInt8)) y_9 hx24))⟩, ⟨trivial, ⟨trivial, trivial⟩⟩⟩⟩⟩⟩⟩⟩⟩⟩⟩⟩⟩⟩⟩⟩⟩⟩⟩⟩⟩⟩⟩⟩⟩⟩
            refine TS.reg [.none, .none, (.call (.bool y_7) []), .dec true, .none, .none, .none, .none, .dec true, .none, .none, .none, .dec true, .none, .none, .none, (.call (.bool y_8) []), .none, .dec true, .none, .none, .none, .none, (.call (.bool y_9) [])] ?_ ?_
            · apply prop_of ?_ hq
              kernel_rfl
            refine XS.then ?_
            refine TS.ret ?_
            obtain rfl : y_9 = r := Option.some.inj h
            exact XS.fin [] ((True) ∧ (True)) (by kernel_rfl) ⟨trivial, trivial⟩
          · have hq : (True) ∧ ((True) ∧ (((((True) ∧ ((True) ∧ ((True) ∧ (True)))) ∧ (((True) ∧ ((True) ∧ ((True) ∧ (True)))) ∧ (True))) ∧ PureC Try.prog 40 [(.st (.cons (.int .i64 y_2.1) (.cons (.int .i64 y_2.2.1) (.cons (.sl .str y_2.2.2.2.1) (.sl .str y_2.2.2.2.2))))), (.st (.cons (.int .i64 y_3.1) (.cons (.int .i64 y_3.2.1) (.cons (.sl .str y_3.2.2.1) (.sl .str y_3.2.2.2.2)))))] (.bool y_7) []) ∧ (((True) ∧ y_7 = true) ∧ ((True) ∧ ((True) ∧ ((True) ∧ ((True) ∧ (((True) ∧ (y_2.2.2.1 == y_3.2.2.2.1) = true) ∧ ((True) ∧ ((True) ∧ ((True) ∧ (((True) ∧ (y_4.2.2.1 == (0 : Int)) = true) ∧ ((True) ∧ ((True) ∧ ((True) ∧ ((((True) ∧ ((True) ∧ (True))) ∧ PureC Try.prog 28 [(.sl .str y_4.2.2.2), (.sl .str texts)] (.bool y_8) []) ∧ ((True) ∧ (((True) ∧ y_8 = false) ∧ ((True) ∧ ((True) ∧ (True))))))))))))))))))))) := ⟨trivial, ⟨trivial, ⟨⟨⟨⟨trivial, ⟨trivial, ⟨trivial, trivial⟩⟩⟩, ⟨⟨trivial, ⟨trivial, ⟨trivial, trivial⟩⟩⟩, trivial⟩⟩, F40_ok n y_2.1 y_2.2.1 y_2.2.2.2.1 y_2.2.2.2.2 y_3.1 y_3.2.1 y_3.2.2.1 y_3.2.2.2.2 y_7 hx14⟩, ⟨⟨trivial, c15⟩, ⟨trivial, ⟨trivial, ⟨trivial, ⟨trivial, ⟨⟨trivial, c17⟩, ⟨trivial, ⟨trivial, ⟨trivial, ⟨⟨trivial, c19⟩, ⟨trivial, ⟨trivial, ⟨trivial, ⟨⟨⟨trivial, ⟨trivial, trivial⟩⟩, F28_ok n y_4.2.2.2 texts y_8 hx21⟩, ⟨trivial, ⟨⟨trivial, c23⟩, ⟨trivial, ⟨trivial, trivial⟩⟩⟩⟩⟩⟩⟩⟩⟩⟩⟩⟩⟩⟩⟩⟩⟩⟩⟩⟩⟩
            refine TS.reg [.none, .none, (.call (.bool y_7) []), .dec true, .none, .none, .none, .none, .dec true, .none, .none, .none, .dec true, .none, .none, .none, (.call (.bool y_8) []), .none, .dec false] ?_ ?_
            · apply prop_of ?_ hq
              kernel_rfl
            refine XS.then ?_
            refine TS.ret ?_
            obtain rfl : false = r := Option.some.inj h
            exact XS.fin [] ((True) ∧ (True)) (by kernel_rfl) ⟨trivial, trivial⟩
        · have hq : (True) ∧ ((True) ∧ (((((True) ∧ ((True) ∧ ((True) ∧ (True)))) ∧ (((True) ∧ ((True) ∧ ((True) ∧ (True)))) ∧ (True))) ∧ PureC Try.prog 40 [(.st (.cons (.int .i64 y_2.1) (.cons (.int .i64 y_2.2.1) (.cons (.sl .str y_2.2.2.2.1) (.sl .str y_2.2.2.2.2))))), (.st (.cons (.int .i64 y_3.1) (.cons (.int .i64 y_3.2.1) (.cons (.sl .str y_3.2.2.1) (.sl .str y_3.2.2.2.2)))))] (.bool y_7) []) ∧ (((True) ∧ y_7 = true) ∧ ((True) ∧ ((True) ∧ ((True) ∧ ((True) ∧ (((True) ∧ (y_2.2.2.1 == y_3.2.2.2.1) = true) ∧ ((True) ∧ ((True) ∧ ((True) ∧ (((True) ∧ (y_4.2.2.1 == (0 : Int)) = false) ∧ ((True) ∧ ((True) ∧ ((True) ∧ ((True) ∧ (True))))))))))))))))) := ⟨trivial, ⟨trivial, ⟨⟨⟨⟨trivial, ⟨trivial, ⟨trivial, trivial⟩⟩⟩, ⟨⟨trivial, ⟨trivial, ⟨trivial, trivial⟩⟩⟩, trivial⟩⟩, F40_ok n y_2.1 y_2.2.1 y_2.2.2.2.1 y_2.2.2.2.2 y_3.1 y_3.2.1 y_3.2.2.1 y_3.2.2.2.2 y_7 hx14⟩, ⟨⟨trivial, c15⟩, ⟨trivial, ⟨trivial, ⟨trivial, ⟨trivial, ⟨⟨trivial, c17⟩, ⟨trivial, ⟨trivial, ⟨trivial, ⟨⟨trivial, c20⟩, ⟨trivial, ⟨trivial, ⟨trivial, ⟨trivial, trivial⟩⟩⟩⟩⟩⟩⟩⟩⟩⟩⟩⟩⟩⟩⟩⟩⟩
          refine TS.reg [.none, .none, (.call (.bool y_7) []), .dec true, .none, .none, .none, .none, .dec true, .none, .none, .none, .dec false] ?_ ?_
          · apply prop_of ?_ hq
            kernel_rfl
          refine XS.then ?_
          refine TS.ret ?_
          obtain rfl : false = r := Option.some.inj h
          exact XS.fin [] ((True) ∧ (True)) (by kernel_rfl) ⟨trivial, trivial⟩
      · have hq : (True) ∧ ((True) ∧ (((((True) ∧ ((True) ∧ ((True) ∧ (True)))) ∧ (((True) ∧ ((True) ∧ ((True) ∧ (True)))) ∧ (True))) ∧ PureC Try.prog 40 [(.st (.cons (.int .i64 y_2.1) (.cons (.int .i64 y_2.2.1) (.cons (.sl .str y_2.2.2.2.1) (.sl .str y_2.2.2.2.2))))), (.st (.cons (.int .i64 y_3.1) (.cons (.int .i64 y_3.2.1) (.cons (.sl .str y_3.2.2.1) (.sl .str y_3.2.2.2.2)))))] (.bool y_7) []) ∧ (((True) ∧ y_7 = true) ∧ ((True) ∧ ((True) ∧ ((True) ∧ ((True) ∧ (((True) ∧ (y_2.2.2.1 == y_3.2.2.2.1) = false) ∧ ((True) ∧ ((True) ∧ ((True) ∧ ((True) ∧ ((True) ∧ ((True) ∧ (True))))))))))))))) := ⟨trivial, ⟨trivial, ⟨⟨⟨⟨trivial, ⟨trivial, ⟨trivial, trivial⟩⟩⟩, ⟨⟨trivial, ⟨trivial, ⟨trivial, trivial⟩⟩⟩, trivial⟩⟩, F40_ok n y_2.1 y_2.2.1 y_2.2.2.2.1 y_2.2.2.2.2 y_3.1 y_3.2.1 y_3.2.2.1 y_3.2.2.2.2 y_7 hx14⟩, ⟨⟨trivial, c15⟩, ⟨trivial, ⟨trivial, ⟨trivial, ⟨trivial, ⟨⟨trivial, c18⟩, ⟨trivial, ⟨trivial, ⟨trivial, ⟨trivial, ⟨trivial, ⟨trivial, trivial⟩⟩⟩⟩⟩⟩⟩⟩⟩⟩⟩⟩⟩⟩⟩
        refine TS.reg [.none, .none, (.call (.bool y_7) []), .dec true, .none, .none, .none, .none, .dec false] ?_ ?_
        · apply prop_of ?_ hq
          kernel_rfl
        refine XS.then ?_
        refine TS.ret ?_
        obtain rfl : false = r := Option.some.inj h
        exact XS.fin [] ((True) ∧ (True)) (by kernel_rfl) ⟨trivial, trivial⟩
    · have hq : (True) ∧ ((True) ∧ (((((True) ∧ ((True) ∧ ((True) ∧ (True)))) ∧ (((True) ∧ ((True) ∧ ((True) ∧ (True)))) ∧ (True))) ∧ PureC Try.prog 40 [(.st (.cons (.int .i64 y_2.1) (.cons (.int .i64 y_2.2.1) (.cons (.sl .str y_2.2.2.2.1) (.sl .str y_2.2.2.2.2))))), (.st (.cons (.int .i64 y_3.1) (.cons (.int .i64 y_3.2.1) (.cons (.sl .str y_3.2.2.1) (.sl .str y_3.2.2.2.2)))))] (.bool y_7) []) ∧ (((True) ∧ y_7 = false) ∧ ((True) ∧ ((True) ∧ ((True) ∧ ((True) ∧ ((True) ∧ ((True) ∧ ((True) ∧ ((True) ∧ (True)))))))))))) := ⟨trivial, ⟨trivial, ⟨⟨⟨⟨trivial, ⟨trivial, ⟨trivial, trivial⟩⟩⟩, ⟨⟨trivial, ⟨trivial, ⟨trivial, trivial⟩⟩⟩, trivial⟩⟩, F40_ok n y_2.1 y_2.2.1 y_2.2.2.2.1 y_2.2.2.2.2 y_3.1 y_3.2.1 y_3.2.2.1 y_3.2.2.2.2 y_7 hx14⟩, ⟨⟨trivial, c16⟩, ⟨trivial, ⟨trivial, ⟨trivial, ⟨trivial, ⟨trivial, ⟨trivial, ⟨trivial, ⟨trivial, trivial⟩⟩⟩⟩⟩⟩⟩⟩⟩⟩⟩⟩
      refine TS.reg [.none, .none, (.call (.bool y_7) []), .dec false] ?_ ?_
      · apply prop_of ?_ hq
        kernel_rfl
      refine XS.then ?_
      refine TS.ret ?_
      obtain rfl : false = r := Option.some.inj h
      exact XS.fin [] ((True) ∧ (True)) (by kernel_rfl) ⟨trivial, trivial⟩

/-! plugtree/pipe.Run -/
def F47_l2 (n : Nat) (fates : List Int) (k47_2 : (Int × Int × Int × (List (List UInt8)) × (List (List UInt8))) → Option (Int × Int × Int × (List (List UInt8)) × (List (List UInt8)))) : (Int × Int × Int × (List (List UInt8)) × (List (List UInt8))) → Option (Int × Int × Int × (List (List UInt8)) × (List (List UInt8)))
  | (x, m1, m1_2, m2, m3) => (bif (decide (x < ((fates.length : Nat) : Int))) then (bif inb x fates.length then ((F37 n m1 m1_2 m2 m3 (fates.getD x.toNat (0 : Int))).bind fun y_7 => (bif (y_7.2.2.1 != (0 : Int)) then (some ((0 : Int), (0 : Int), y_7.2.2.1, ([] : List (List UInt8)), ([] : List (List UInt8)))) else (k47_2 ((IntKind.wrap .i64 (x + (1 : Int))), y_7.1, y_7.2.1, y_7.2.2.2.1, y_7.2.2.2.2)))) else none) else (some (m1, m1_2, (0 : Int), m2, m3)))
def F47 (n : Nat) (texts : List (List UInt8)) (fates : List Int) : Option (Int × Int × Int × (List (List UInt8)) × (List (List UInt8))) := ((F39 n texts).bind fun y_6 => (bif (y_6.2.2.1 != (0 : Int)) then (some ((0 : Int), (0 : Int), y_6.2.2.1, ([] : List (List UInt8)), ([] : List (List UInt8)))) else (bif (decide (((fates.length : Nat) : Int) > (1000 : Int))) then (some ((0 : Int), (0 : Int), (2 : Int), ([] : List (List UInt8)), ([] : List (List UInt8)))) else (loopF (F47_l2 n fates) n ((0 : Int), y_6.1, y_6.2.1, y_6.2.2.2, ([] : List (List UInt8)))))))
theorem F47_ok (n : Nat) (texts : List (List UInt8)) (fates : List Int) (r : Int × Int × Int × (List (List UInt8)) × (List (List UInt8))) (h : F47 n texts fates = some r) : PureC Try.prog 47 [(.sl .str texts), (.sl (.int .i64) fates)] (.tup (.cons (.st (.cons (.int .i64 r.1) (.cons (.int .i64 r.2.1) (.cons (.row 0) (.row 1))))) (.cons (.int .i64 r.2.2.1) .nil))) [(.row 9 .str r.2.2.2.1), (.row 9 .str r.2.2.2.2)] := by
  refine PureC.mkS Try.func47 rfl rfl ?_
  intro w0 fz0 hfz
  replace h : ((F39 n texts).bind fun y_6 => (bif (y_6.2.2.1 != (0 : Int)) then (some ((0 : Int), (0 : Int), y_6.2.2.1, ([] : List (List UInt8)), ([] : List (List UInt8)))) else (bif (decide (((fates.length : Nat) : Int) > (1000 : Int))) then (some ((0 : Int), (0 : Int), (2 : Int), ([] : List (List UInt8)), ([] : List (List UInt8)))) else (loopF (F47_l2 n fates) n ((0 : Int), y_6.1, y_6.2.1, y_6.2.2.2, ([] : List (List UInt8))))))) = some r := h
  refine TS.seq ?_
  have hq : (True) ∧ ((True) ∧ (True)) := ⟨trivial, ⟨trivial, trivial⟩⟩
  refine TS.reg [] ?_ ?_
  · apply prop_of ?_ hq
    kernel_rfl
  refine XS.then ?_
  refine TS.seq ?_
  obtain ⟨y_6, hx1, h⟩ := bind_some' h
  have hq : (True) ∧ ((PureC Try.prog 39 [(.sl .str texts)] (.tup (.cons (.st (.cons (.int .i64 y_6.1) (.cons (.int .i64 y_6.2.1) (.cons (.row 0) .nilS)))) (.cons (.int .i64 y_6.2.2.1) .nil))) [(.row 9 .str y_6.2.2.2)]) ∧ ((True) ∧ ((True) ∧ ((True) ∧ ((True) ∧ ((True) ∧ ((True) ∧ (True)))))))) := ⟨trivial, ⟨F39_ok n texts y_6 hx1, ⟨trivial, ⟨trivial, ⟨trivial, ⟨trivial, ⟨trivial, ⟨trivial, trivial⟩⟩⟩⟩⟩⟩⟩⟩
  refine TS.reg [.none, (.call (.tup (.cons (.st (.cons (.int .i64 y_6.1) (.cons (.int .i64 y_6.2.1) (.cons (.row 0) .nilS)))) (.cons (.int .i64 y_6.2.2.1) .nil))) [(.row 9 .str y_6.2.2.2)])] ?_ ?_
  · apply prop_of ?_ hq
    kernel_rfl
  refine XS.then ?_
  refine TS.seq ?_
  refine TS.seq ?_
  have hq : (True) ∧ ((True) ∧ (True)) := ⟨trivial, ⟨trivial, trivial⟩⟩
  refine TS.reg [] ?_ ?_
  · apply prop_of ?_ hq
    kernel_rfl
  refine XS.then ?_
  rcases bif_some h with ⟨c2, h⟩ | ⟨c3, h⟩
  · refine TS.cond (y_6.2.2.1 != (0 : Int)) ?_ (fun e => ?_) (fun e => by rw [c2] at e; cases e)
    · kernel_rfl
    refine TS.seq ?_
    have hq : (True) ∧ ((True) ∧ ((True) ∧ ((True) ∧ (True)))) := ⟨trivial, ⟨trivial, ⟨trivial, ⟨trivial, trivial⟩⟩⟩⟩
    refine TS.reg [] ?_ ?_
    · apply prop_of ?_ hq
      kernel_rfl
    refine XS.then ?_
    refine TS.ret ?_
    refine XS.passR ?_
    obtain rfl : ((0 : Int), (0 : Int), y_6.2.2.1, ([] : List (List UInt8)), ([] : List (List UInt8))) = r := Option.some.inj h
    refine XS.wk (.row true 0 [true, true, false] 9 .str) ?_
    refine XS.wk (.row true 0 [true, true, true] 9 .str) ?_
    exact XS.fin [3, 4] ((True) ∧ ((True) ∧ (True))) (by kernel_rfl) ⟨trivial, ⟨trivial, trivial⟩⟩
  · refine TS.cond (y_6.2.2.1 != (0 : Int)) ?_ (fun e => by rw [c3] at e; cases e) (fun e => ?_)
    · kernel_rfl
    refine TS.skip ?_
    refine XS.then ?_
    refine TS.seq ?_
    refine TS.seq ?_
    have hq : (True) ∧ ((True) ∧ ((True) ∧ (True))) := ⟨trivial, ⟨trivial, ⟨trivial, trivial⟩⟩⟩
    refine TS.reg [] ?_ ?_
    · apply prop_of ?_ hq
      kernel_rfl
    refine XS.then ?_
    rcases bif_some h with ⟨c4, h⟩ | ⟨c5, h⟩
    · refine TS.cond (decide (((fates.length : Nat) : Int) > (1000 : Int))) ?_ (fun e => ?_) (fun e => by rw [c4] at e; cases e)
      · kernel_rfl
      refine TS.seq ?_
      have hq : (True) ∧ ((True) ∧ ((True) ∧ (True))) := ⟨trivial, ⟨trivial, ⟨trivial, trivial⟩⟩⟩
      refine TS.reg [] ?_ ?_
      · apply prop_of ?_ hq
        kernel_rfl
      refine XS.then ?_
      refine TS.ret ?_
      refine XS.passR ?_
      obtain rfl : ((0 : Int), (0 : Int), (2 : Int), ([] : List (List UInt8)), ([] : List (List UInt8))) = r := Option.some.inj h
      refine XS.wk (.row true 0 [true, true, false] 9 .str) ?_
      refine XS.wk (.row true 0 [true, true, true] 9 .str) ?_
      exact XS.fin [3, 4] ((True) ∧ ((True) ∧ (True))) (by kernel_rfl) ⟨trivial, ⟨trivial, trivial⟩⟩
    · refine TS.cond (decide (((fates.length : Nat) : Int) > (1000 : Int))) ?_ (fun e => by rw [c5] at e; cases e) (fun e => ?_)
      · kernel_rfl
      refine TS.skip ?_
      refine XS.then ?_
      refine TS.seq ?_
      refine TS.seq ?_
      have hq : (True) ∧ ((True) ∧ ((True) ∧ (True))) := ⟨trivial, ⟨trivial, ⟨trivial, trivial⟩⟩⟩
      refine TS.reg [] ?_ ?_
      · apply prop_of ?_ hq
        kernel_rfl
      refine XS.then ?_
      refine TS.block ?_
      refine TS.wk (.row true 2 [true, true, true] 9 .str) ?_
      refine TS.reLoop [0, 2, 1, 3] (mkMask 41 [4, 6, 23, 24, 25]) (D := Int × Int × Int × (List (List UInt8)) × (List (List UInt8))) (fun d => match d with | (x, m1, m1_2, m2, m3) => (mkTs 41 [(4, (.ptr 0 [])), (6, (.ptr 1 [])), (23, (.sl (.int .i64) fates)), (24, (.int .i64 ((fates.length : Nat) : Int))), (25, (.int .i64 x))], [(.box 60 (.st (.cons (.int .i64 (0 : Int)) (.cons (.int .i64 (0 : Int)) (.cons .nilS .nilS))))), (.box 60 (.st (.cons (.int .i64 m1) (.cons (.int .i64 m1_2) (.cons (.row 2) (.row 3)))))), (.row 9 .str m2), (.row 9 .str m3)])) (fun n' d => loopF (F47_l2 n fates) n' d = some r) n ((0 : Int), y_6.1, y_6.2.1, y_6.2.2.2, ([] : List (List UInt8))) h ?_ (fun d => loopF_zero _ d r) ?_
      · kernel_rfl
      · rintro n2 ⟨x, m1, m1_2, m2, m3⟩ h
        replace h : (bif (decide (x < ((fates.length : Nat) : Int))) then (bif inb x fates.length then ((F37 n m1 m1_2 m2 m3 (fates.getD x.toNat (0 : Int))).bind fun y_7 => (bif (y_7.2.2.1 != (0 : Int)) then (some ((0 : Int), (0 : Int), y_7.2.2.1, ([] : List (List UInt8)), ([] : List (List UInt8)))) else ((loopF (F47_l2 n fates) n2) ((IntKind.wrap .i64 (x + (1 : Int))), y_7.1, y_7.2.1, y_7.2.2.2.1, y_7.2.2.2.2)))) else none) else (some (m1, m1_2, (0 : Int), m2, m3))) = some r := h
        refine TS.seq ?_
        have hq : (True) ∧ (True) := ⟨trivial, trivial⟩
        refine TS.reg [] ?_ ?_
        · apply prop_of ?_ hq
          kernel_rfl
        refine XS.then ?_
        refine TS.seq ?_
        rcases bif_some h with ⟨c6, h⟩ | ⟨c7, h⟩
        · refine TS.cond (decide (x < ((fates.length : Nat) : Int))) ?_ (fun e => ?_) (fun e => by rw [c6] at e; cases e)
          · kernel_rfl
          refine TS.skip ?_
          refine XS.then ?_
          refine TS.seq ?_
          refine TS.block ?_
          refine TS.seq ?_
          obtain ⟨t8, h⟩ := test_some h
          have hq : (inR x fates.length) ∧ ((True) ∧ ((True) ∧ (True))) := ⟨inb_ok t8, ⟨trivial, ⟨trivial, trivial⟩⟩⟩
          refine TS.reg [] ?_ ?_
          · apply prop_of ?_ hq
            kernel_rfl
          refine XS.then ?_
          refine TS.seq ?_
          obtain ⟨y_7, hx9, h⟩ := bind_some' h
          have hq : (True) ∧ ((True) ∧ (((((True) ∧ ((True) ∧ ((True) ∧ (True)))) ∧ ((True) ∧ (True))) ∧ PureC Try.prog 37 [(.st (.cons (.int .i64 m1) (.cons (.int .i64 m1_2) (.cons (.sl .str m2) (.sl .str m3))))), (.int .i64 (fates.getD x.toNat (0 : Int)))] (.tup (.cons (.st (.cons (.int .i64 y_7.1) (.cons (.int .i64 y_7.2.1) (.cons (.row 0) (.row 1))))) (.cons (.int .i64 y_7.2.2.1) .nil))) [(.row 9 .str y_7.2.2.2.1), (.row 9 .str y_7.2.2.2.2)]) ∧ ((True) ∧ ((True) ∧ ((True) ∧ ((True) ∧ ((True) ∧ (True)))))))) := ⟨trivial, ⟨trivial, ⟨⟨⟨⟨trivial, ⟨trivial, ⟨trivial, trivial⟩⟩⟩, ⟨trivial, trivial⟩⟩, F37_ok n m1 m1_2 m2 m3 (fates.getD x.toNat (0 : Int)) y_7 hx9⟩, ⟨trivial, ⟨trivial, ⟨trivial, ⟨trivial, ⟨trivial, trivial⟩⟩⟩⟩⟩⟩⟩⟩
          refine TS.reg [.none, .none, (.call (.tup (.cons (.st (.cons (.int .i64 y_7.1) (.cons (.int .i64 y_7.2.1) (.cons (.row 0) (.row 1))))) (.cons (.int .i64 y_7.2.2.1) .nil))) [(.row 9 .str y_7.2.2.2.1), (.row 9 .str y_7.2.2.2.2)])] ?_ ?_
          · apply prop_of ?_ hq
            kernel_rfl
          refine XS.then ?_
          refine TS.seq ?_
          have hq : (True) ∧ ((True) ∧ (True)) := ⟨trivial, ⟨trivial, trivial⟩⟩
          refine TS.reg [] ?_ ?_
          · apply prop_of ?_ hq
            kernel_rfl
          refine XS.then ?_
          rcases bif_some h with ⟨c10, h⟩ | ⟨c11, h⟩
          · refine TS.cond (y_7.2.2.1 != (0 : Int)) ?_ (fun e => ?_) (fun e => by rw [c10] at e; cases e)
            · kernel_rfl
            refine TS.seq ?_
            have hq : (True) ∧ ((True) ∧ ((True) ∧ ((True) ∧ (True)))) := ⟨trivial, ⟨trivial, ⟨trivial, ⟨trivial, trivial⟩⟩⟩⟩
            refine TS.reg [] ?_ ?_
            · apply prop_of ?_ hq
              kernel_rfl
            refine XS.then ?_
            refine TS.ret ?_
            refine XS.blockRet ?_
            refine XS.passR ?_
            refine XS.passR ?_
            refine XS.blockRet ?_
            refine XS.passR ?_
            obtain rfl : ((0 : Int), (0 : Int), y_7.2.2.1, ([] : List (List UInt8)), ([] : List (List UInt8))) = r := Option.some.inj h
            refine XS.wk (.row true 0 [true, true, false] 9 .str) ?_
            refine XS.wk (.row true 0 [true, true, true] 9 .str) ?_
            exact XS.fin [6, 7] ((True) ∧ ((True) ∧ (True))) (by kernel_rfl) ⟨trivial, ⟨trivial, trivial⟩⟩
          · refine TS.cond (y_7.2.2.1 != (0 : Int)) ?_ (fun e => by rw [c11] at e; cases e) (fun e => ?_)
            · kernel_rfl
            refine TS.skip ?_
            refine XS.blockEnd ?_
            refine XS.then ?_
            have hq : (True) ∧ ((True) ∧ (True)) := ⟨trivial, ⟨trivial, trivial⟩⟩
            refine TS.reg [] ?_ ?_
            · apply prop_of ?_ hq
              kernel_rfl
            refine XS.reAny [0, 1, 4, 5] (mkMask 41 [4, 6, 23, 24, 25]) ((IntKind.wrap .i64 (x + (1 : Int))), y_7.1, y_7.2.1, y_7.2.2.2.1, y_7.2.2.2.2) h ?_
            kernel_rfl
        · refine TS.cond (decide (x < ((fates.length : Nat) : Int))) ?_ (fun e => by rw [c7] at e; cases e) (fun e => ?_)
          · kernel_rfl
          refine TS.exit ?_
          refine XS.passE ?_
          refine XS.passE ?_
          refine XS.out ?_
          refine XS.then ?_
          refine TS.seq ?_
          have hq : (True) ∧ ((True) ∧ ((True) ∧ (True))) := ⟨trivial, ⟨trivial, ⟨trivial, trivial⟩⟩⟩
          refine TS.reg [] ?_ ?_
          · apply prop_of ?_ hq
            kernel_rfl
          refine XS.then ?_
          refine TS.ret ?_
          obtain rfl : (m1, m1_2, (0 : Int), m2, m3) = r := Option.some.inj h
          exact XS.fin [2, 3] ((True) ∧ ((True) ∧ (True))) (by kernel_rfl) ⟨trivial, ⟨trivial, trivial⟩⟩

/-! plugtree/plugref.PipeRun -/
def F48_l2 (n : Nat) (texts : List (List UInt8)) (fates : List Int) (k48_2 : (Int × Int × Int) → Option (Int × Int × (List (List UInt8)) × (List (List UInt8)) × Int)) : (Int × Int × Int) → Option (Int × Int × (List (List UInt8)) × (List (List UInt8)) × Int)
  | (told, got, x) => (bif (decide (x < ((fates.length : Nat) : Int))) then (bif inb x fates.length then ((F80 n (fates.getD x.toNat (0 : Int))).bind fun y_6 => (bif (!y_6) then (some ((0 : Int), (0 : Int), ([] : List (List UInt8)), ([] : List (List UInt8)), (1 : Int))) else (bif (decide (told < ((texts.length : Nat) : Int))) then (bif ((fates.getD x.toNat (0 : Int)) == (1 : Int)) then (k48_2 ((IntKind.wrap .i64 (told + (1 : Int))), (IntKind.wrap .i64 (told + (1 : Int))), (IntKind.wrap .i64 (x + (1 : Int))))) else (bif ((fates.getD x.toNat (0 : Int)) == (3 : Int)) then (k48_2 (told, (IntKind.wrap .i64 (told + (1 : Int))), (IntKind.wrap .i64 (x + (1 : Int))))) else (k48_2 (told, got, (IntKind.wrap .i64 (x + (1 : Int))))))) else (k48_2 (told, got, (IntKind.wrap .i64 (x + (1 : Int)))))))) else none) else (bif subB texts.length (some told) none then (bif subB texts.length none (some got) then (some ((told.tmod (2 : Int)), (got.tmod (2 : Int)), (texts.drop told.toNat), (texts.take got.toNat), (0 : Int))) else none) else none))
def F48 (n : Nat) (texts : List (List UInt8)) (fates : List Int) : Option (Int × Int × (List (List UInt8)) × (List (List UInt8)) × Int) := (bif (decide (((texts.length : Nat) : Int) > (200 : Int))) then (some ((0 : Int), (0 : Int), ([] : List (List UInt8)), ([] : List (List UInt8)), (2 : Int))) else (bif (decide (((fates.length : Nat) : Int) > (1000 : Int))) then (some ((0 : Int), (0 : Int), ([] : List (List UInt8)), ([] : List (List UInt8)), (2 : Int))) else (loopF (F48_l2 n texts fates) n ((0 : Int), (0 : Int), (0 : Int)))))
theorem F48_ok (n : Nat) (texts : List (List UInt8)) (fates : List Int) (r : Int × Int × (List (List UInt8)) × (List (List UInt8)) × Int) (h : F48 n texts fates = some r) : PureC Try.prog 48 [(.sl .str texts), (.sl (.int .i64) fates)] (.tup (.cons (.st (.cons (.int .i64 r.1) (.cons (.int .i64 r.2.1) (.cons (.sl .str r.2.2.1) (.sl .str r.2.2.2.1))))) (.cons (.int .i64 r.2.2.2.2) .nil))) [] := by
  refine PureC.mkS Try.func48 rfl rfl ?_
  intro w0 fz0 hfz
  replace h : (bif (decide (((texts.length : Nat) : Int) > (200 : Int))) then (some ((0 : Int), (0 : Int), ([] : List (List UInt8)), ([] : List (List UInt8)), (2 : Int))) else (bif (decide (((fates.length : Nat) : Int) > (1000 : Int))) then (some ((0 : Int), (0 : Int), ([] : List (List UInt8)), ([] : List (List UInt8)), (2 : Int))) else (loopF (F48_l2 n texts fates) n ((0 : Int), (0 : Int), (0 : Int))))) = some r := h
  refine TS.seq ?_
  have hq : (True) ∧ ((True) ∧ (True)) := ⟨trivial, ⟨trivial, trivial⟩⟩
  refine TS.reg [] ?_ ?_
  · apply prop_of ?_ hq
    kernel_rfl
  refine XS.then ?_
  refine TS.seq ?_
  refine TS.seq ?_
  rcases bif_some h with ⟨c1, h⟩ | ⟨c2, h⟩
  · have hq : (True) ∧ ((True) ∧ ((True) ∧ (((True) ∧ (decide (((texts.length : Nat) : Int) > (200 : Int))) = true) ∧ ((True) ∧ (True))))) := ⟨trivial, ⟨trivial, ⟨trivial, ⟨⟨trivial, c1⟩, ⟨trivial, trivial⟩⟩⟩⟩⟩
    refine TS.reg [.none, .none, .none, .dec true] ?_ ?_
    · apply prop_of ?_ hq
      kernel_rfl
    refine XS.then ?_
    refine TS.yes ?_ ?_
    · kernel_rfl
    refine TS.seq ?_
    have hq : (True) ∧ ((True) ∧ ((True) ∧ (True))) := ⟨trivial, ⟨trivial, ⟨trivial, trivial⟩⟩⟩
    refine TS.reg [] ?_ ?_
    · apply prop_of ?_ hq
      kernel_rfl
    refine XS.then ?_
    refine TS.ret ?_
    refine XS.passR ?_
    obtain rfl : ((0 : Int), (0 : Int), ([] : List (List UInt8)), ([] : List (List UInt8)), (2 : Int)) = r := Option.some.inj h
    refine XS.wk (.view true 0 [true, true, false] .str) ?_
    refine XS.wk (.view true 0 [true, true, true] .str) ?_
    exact XS.fin [] ((True) ∧ ((True) ∧ (True))) (by kernel_rfl) ⟨trivial, ⟨trivial, trivial⟩⟩
  · have hq : (True) ∧ ((True) ∧ ((True) ∧ (((True) ∧ (decide (((texts.length : Nat) : Int) > (200 : Int))) = false) ∧ ((True) ∧ ((True) ∧ ((True) ∧ ((True) ∧ (True)))))))) := ⟨trivial, ⟨trivial, ⟨trivial, ⟨⟨trivial, c2⟩, ⟨trivial, ⟨trivial, ⟨trivial, ⟨trivial, trivial⟩⟩⟩⟩⟩⟩⟩⟩
    refine TS.reg [.none, .none, .none, .dec false] ?_ ?_
    · apply prop_of ?_ hq
      kernel_rfl
    refine XS.then ?_
    rcases bif_some h with ⟨c3, h⟩ | ⟨c4, h⟩
    · refine TS.cond (decide (((fates.length : Nat) : Int) > (1000 : Int))) ?_ (fun e => ?_) (fun e => by rw [c3] at e; cases e)
      · kernel_rfl
      refine TS.seq ?_
      have hq : (True) ∧ ((True) ∧ ((True) ∧ (True))) := ⟨trivial, ⟨trivial, ⟨trivial, trivial⟩⟩⟩
      refine TS.reg [] ?_ ?_
      · apply prop_of ?_ hq
        kernel_rfl
      refine XS.then ?_
      refine TS.ret ?_
      refine XS.passR ?_
      obtain rfl : ((0 : Int), (0 : Int), ([] : List (List UInt8)), ([] : List (List UInt8)), (2 : Int)) = r := Option.some.inj h
      refine XS.wk (.view true 0 [true, true, false] .str) ?_
      refine XS.wk (.view true 0 [true, true, true] .str) ?_
      exact XS.fin [] ((True) ∧ ((True) ∧ (True))) (by kernel_rfl) ⟨trivial, ⟨trivial, trivial⟩⟩
    · refine TS.cond (decide (((fates.length : Nat) : Int) > (1000 : Int))) ?_ (fun e => by rw [c4] at e; cases e) (fun e => ?_)
      · kernel_rfl
      refine TS.skip ?_
      refine XS.then ?_
      refine TS.seq ?_
      have hq : (True) ∧ ((True) ∧ (True)) := ⟨trivial, ⟨trivial, trivial⟩⟩
      refine TS.reg [] ?_ ?_
      · apply prop_of ?_ hq
        kernel_rfl
      refine XS.then ?_
      refine TS.seq ?_
      refine TS.seq ?_
      have hq : (True) ∧ ((True) ∧ ((True) ∧ (True))) := ⟨trivial, ⟨trivial, ⟨trivial, trivial⟩⟩⟩
      refine TS.reg [] ?_ ?_
      · apply prop_of ?_ hq
        kernel_rfl
      refine XS.then ?_
      refine TS.block ?_
      refine TS.reLoop [0] (mkMask 59 [0, 4, 6, 7, 19, 20, 21]) (D := Int × Int × Int) (fun d => match d with | (told, got, x) => (mkTs 59 [(0, (.sl .str texts)), (4, (.ptr 0 [])), (6, (.int .i64 told)), (7, (.int .i64 got)), (19, (.sl (.int .i64) fates)), (20, (.int .i64 ((fates.length : Nat) : Int))), (21, (.int .i64 x))], [(.box 60 (.st (.cons (.int .i64 (0 : Int)) (.cons (.int .i64 (0 : Int)) (.cons .nilS .nilS)))))])) (fun n' d => loopF (F48_l2 n texts fates) n' d = some r) n ((0 : Int), (0 : Int), (0 : Int)) h ?_ (fun d => loopF_zero _ d r) ?_
      · kernel_rfl
      · rintro n2 ⟨told, got, x⟩ h
        replace h : (bif (decide (x < ((fates.length : Nat) : Int))) then (bif inb x fates.length then ((F80 n (fates.getD x.toNat (0 : Int))).bind fun y_6 => (bif (!y_6) then (some ((0 : Int), (0 : Int), ([] : List (List UInt8)), ([] : List (List UInt8)), (1 : Int))) else (bif (decide (told < ((texts.length : Nat) : Int))) then (bif ((fates.getD x.toNat (0 : Int)) == (1 : Int)) then ((loopF (F48_l2 n texts fates) n2) ((IntKind.wrap .i64 (told + (1 : Int))), (IntKind.wrap .i64 (told + (1 : Int))), (IntKind.wrap .i64 (x + (1 : Int))))) else (bif ((fates.getD x.toNat (0 : Int)) == (3 : Int)) then ((loopF (F48_l2 n texts fates) n2) (told, (IntKind.wrap .i64 (told + (1 : Int))), (IntKind.wrap .i64 (x + (1 : Int))))) else ((loopF (F48_l2 n texts fates) n2) (told, got, (IntKind.wrap .i64 (x + (1 : Int))))))) else ((loopF (F48_l2 n texts fates) n2) (told, got, (IntKind.wrap .i64 (x + (1 : Int)))))))) else none) else (bif subB texts.length (some told) none then (bif subB texts.length none (some got) then (some ((told.tmod (2 : Int)), (got.tmod (2 : Int)), (texts.drop told.toNat), (texts.take got.toNat), (0 : Int))) else none) else none)) = some r := h
        refine TS.seq ?_
        have hq : (True) ∧ (True) := ⟨trivial, trivial⟩
        refine TS.reg [] ?_ ?_
        · apply prop_of ?_ hq
          kernel_rfl
        refine XS.then ?_
        refine TS.seq ?_
        rcases bif_some h with ⟨c5, h⟩ | ⟨c6, h⟩
        · refine TS.cond (decide (x < ((fates.length : Nat) : Int))) ?_ (fun e => ?_) (fun e => by rw [c5] at e; cases e)
          · kernel_rfl
          refine TS.skip ?_
          refine XS.then ?_
          refine TS.seq ?_
          refine TS.block ?_
          refine TS.seq ?_
          obtain ⟨t7, h⟩ := test_some h
          have hq : (inR x fates.length) ∧ ((True) ∧ ((True) ∧ (True))) := ⟨inb_ok t7, ⟨trivial, ⟨trivial, trivial⟩⟩⟩
          refine TS.reg [] ?_ ?_
          · apply prop_of ?_ hq
            kernel_rfl
          refine XS.then ?_
          refine TS.seq ?_
          refine TS.seq ?_
          obtain ⟨y_6, hx8, h⟩ := bind_some' h
          have hq : (True) ∧ ((PureC Try.prog 80 [(.int .i64 (fates.getD x.toNat (0 : Int)))] (.bool y_6) []) ∧ ((True) ∧ (True))) := ⟨trivial, ⟨F80_ok n (fates.getD x.toNat (0 : Int)) y_6 hx8, ⟨trivial, trivial⟩⟩⟩
          refine TS.reg [.none, (.call (.bool y_6) [])] ?_ ?_
          · apply prop_of ?_ hq
            kernel_rfl
          refine XS.then ?_
          rcases bif_some h with ⟨c9, h⟩ | ⟨c10, h⟩
          · refine TS.cond (!y_6) ?_ (fun e => ?_) (fun e => by rw [c9] at e; cases e)
            · kernel_rfl
            refine TS.seq ?_
            have hq : (True) ∧ ((True) ∧ ((True) ∧ (True))) := ⟨trivial, ⟨trivial, ⟨trivial, trivial⟩⟩⟩
            refine TS.reg [] ?_ ?_
            · apply prop_of ?_ hq
              kernel_rfl
            refine XS.then ?_
            refine TS.ret ?_
            refine XS.passR ?_
            refine XS.blockRet ?_
            refine XS.passR ?_
            refine XS.passR ?_
            refine XS.blockRet ?_
            refine XS.passR ?_
            obtain rfl : ((0 : Int), (0 : Int), ([] : List (List UInt8)), ([] : List (List UInt8)), (1 : Int)) = r := Option.some.inj h
            refine XS.wk (.view true 0 [true, true, false] .str) ?_
            refine XS.wk (.view true 0 [true, true, true] .str) ?_
            exact XS.fin [] ((True) ∧ ((True) ∧ (True))) (by kernel_rfl) ⟨trivial, ⟨trivial, trivial⟩⟩
          · refine TS.cond (!y_6) ?_ (fun e => by rw [c10] at e; cases e) (fun e => ?_)
            · kernel_rfl
            refine TS.skip ?_
            refine XS.then ?_
            refine TS.seq ?_
            rcases bif_some h with ⟨c11, h⟩ | ⟨c12, h⟩
            · rcases bif_some h with ⟨c13, h⟩ | ⟨c14, h⟩
              · have hq : (True) ∧ ((True) ∧ ((True) ∧ ((True) ∧ (((True) ∧ (decide (told < ((texts.length : Nat) : Int))) = true) ∧ ((True) ∧ ((True) ∧ (((True) ∧ ((fates.getD x.toNat (0 : Int)) == (1 : Int)) = true) ∧ ((True) ∧ ((True) ∧ (True)))))))))) := ⟨trivial, ⟨trivial, ⟨trivial, ⟨trivial, ⟨⟨trivial, c11⟩, ⟨trivial, ⟨trivial, ⟨⟨trivial, c13⟩, ⟨trivial, ⟨trivial, trivial⟩⟩⟩⟩⟩⟩⟩⟩⟩⟩
                refine TS.reg [.none, .none, .none, .none, .dec true, .none, .none, .dec true] ?_ ?_
                · apply prop_of ?_ hq
                  kernel_rfl
                refine XS.then ?_
                refine TS.yes ?_ ?_
                · kernel_rfl
                refine TS.seq ?_
                have hq : (True) ∧ ((True) ∧ ((True) ∧ (True))) := ⟨trivial, ⟨trivial, ⟨trivial, trivial⟩⟩⟩
                refine TS.reg [] ?_ ?_
                · apply prop_of ?_ hq
                  kernel_rfl
                refine XS.then ?_
                refine TS.seq ?_
                have hq : (True) ∧ ((True) ∧ (True)) := ⟨trivial, ⟨trivial, trivial⟩⟩
                refine TS.reg [] ?_ ?_
                · apply prop_of ?_ hq
                  kernel_rfl
                refine XS.then ?_
                refine TS.cond ((fates.getD x.toNat (0 : Int)) == (1 : Int)) ?_ (fun e => ?_) (fun e => by rw [c13] at e; cases e)
                · kernel_rfl
                have hq : (True) ∧ ((True) ∧ ((True) ∧ (True))) := ⟨trivial, ⟨trivial, ⟨trivial, trivial⟩⟩⟩
                refine TS.reg [] ?_ ?_
                · apply prop_of ?_ hq
                  kernel_rfl
                refine XS.blockEnd ?_
                refine XS.then ?_
                have hq : (True) ∧ ((True) ∧ (True)) := ⟨trivial, ⟨trivial, trivial⟩⟩
                refine TS.reg [] ?_ ?_
                · apply prop_of ?_ hq
                  kernel_rfl
                refine XS.reAny [0] (mkMask 59 [0, 4, 6, 7, 19, 20, 21]) ((IntKind.wrap .i64 (told + (1 : Int))), (IntKind.wrap .i64 (told + (1 : Int))), (IntKind.wrap .i64 (x + (1 : Int)))) h ?_
                kernel_rfl
              · have hq : (True) ∧ ((True) ∧ ((True) ∧ ((True) ∧ (((True) ∧ (decide (told < ((texts.length : Nat) : Int))) = true) ∧ ((True) ∧ ((True) ∧ (((True) ∧ ((fates.getD x.toNat (0 : Int)) == (1 : Int)) = false) ∧ ((True) ∧ ((True) ∧ ((True) ∧ ((True) ∧ (True)))))))))))) := ⟨trivial, ⟨trivial, ⟨trivial, ⟨trivial, ⟨⟨trivial, c11⟩, ⟨trivial, ⟨trivial, ⟨⟨trivial, c14⟩, ⟨trivial, ⟨trivial, ⟨trivial, ⟨trivial, trivial⟩⟩⟩⟩⟩⟩⟩⟩⟩⟩⟩⟩
                refine TS.reg [.none, .none, .none, .none, .dec true, .none, .none, .dec false] ?_ ?_
                · apply prop_of ?_ hq
                  kernel_rfl
                refine XS.then ?_
                rcases bif_some h with ⟨c15, h⟩ | ⟨c16, h⟩
                · refine TS.cond ((fates.getD x.toNat (0 : Int)) == (3 : Int)) ?_ (fun e => ?_) (fun e => by rw [c15] at e; cases e)
                  · kernel_rfl
                  refine TS.seq ?_
                  have hq : (True) ∧ ((True) ∧ ((True) ∧ (True))) := ⟨trivial, ⟨trivial, ⟨trivial, trivial⟩⟩⟩
                  refine TS.reg [] ?_ ?_
                  · apply prop_of ?_ hq
                    kernel_rfl
                  refine XS.then ?_
                  refine TS.seq ?_
                  have hq : (True) ∧ ((True) ∧ (True)) := ⟨trivial, ⟨trivial, trivial⟩⟩
                  refine TS.reg [] ?_ ?_
                  · apply prop_of ?_ hq
                    kernel_rfl
                  refine XS.then ?_
                  refine TS.cond ((fates.getD x.toNat (0 : Int)) == (1 : Int)) ?_ (fun e => by rw [c14] at e; cases e) (fun e => ?_)
                  · kernel_rfl
                  refine TS.skip ?_
                  refine XS.blockEnd ?_
                  refine XS.then ?_
                  have hq : (True) ∧ ((True) ∧ (True)) := ⟨trivial, ⟨trivial, trivial⟩⟩
                  refine TS.reg [] ?_ ?_
                  · apply prop_of ?_ hq
                    kernel_rfl
                  refine XS.reAny [0] (mkMask 59 [0, 4, 6, 7, 19, 20, 21]) (told, (IntKind.wrap .i64 (told + (1 : Int))), (IntKind.wrap .i64 (x + (1 : Int)))) h ?_
                  kernel_rfl
                · refine TS.cond ((fates.getD x.toNat (0 : Int)) == (3 : Int)) ?_ (fun e => by rw [c16] at e; cases e) (fun e => ?_)
                  · kernel_rfl
                  refine TS.skip ?_
                  refine XS.blockEnd ?_
                  refine XS.then ?_
                  have hq : (True) ∧ ((True) ∧ (True)) := ⟨trivial, ⟨trivial, trivial⟩⟩
                  refine TS.reg [] ?_ ?_
                  · apply prop_of ?_ hq
                    kernel_rfl
                  refine XS.reAny [0] (mkMask 59 [0, 4, 6, 7, 19, 20, 21]) (told, got, (IntKind.wrap .i64 (x + (1 : Int)))) h ?_
                  kernel_rfl
            · have hq : (True) ∧ ((True) ∧ ((True) ∧ ((True) ∧ (((True) ∧ (decide (told < ((texts.length : Nat) : Int))) = false) ∧ ((True) ∧ (True)))))) := ⟨trivial, ⟨trivial, ⟨trivial, ⟨trivial, ⟨⟨trivial, c12⟩, ⟨trivial, trivial⟩⟩⟩⟩⟩⟩
              refine TS.reg [.none, .none, .none, .none, .dec false] ?_ ?_
              · apply prop_of ?_ hq
                kernel_rfl
              refine XS.then ?_
              refine TS.no ?_ ?_
              · kernel_rfl
              refine TS.skip ?_
              refine XS.blockEnd ?_
              refine XS.then ?_
              have hq : (True) ∧ ((True) ∧ (True)) := ⟨trivial, ⟨trivial, trivial⟩⟩
              refine TS.reg [] ?_ ?_
              · apply prop_of ?_ hq
                kernel_rfl
              refine XS.reAny [0] (mkMask 59 [0, 4, 6, 7, 19, 20, 21]) (told, got, (IntKind.wrap .i64 (x + (1 : Int)))) h ?_
              kernel_rfl
        · refine TS.cond (decide (x < ((fates.length : Nat) : Int))) ?_ (fun e => by rw [c6] at e; cases e) (fun e => ?_)
          · kernel_rfl
          refine TS.exit ?_
          refine XS.passE ?_
          refine XS.passE ?_
          refine XS.out ?_
          refine XS.then ?_
          refine TS.seq ?_
          obtain ⟨t17, h⟩ := test_some h
          obtain ⟨t18, h⟩ := test_some h
          have hq : ((True) ∧ (((2 : Int) ≠ 0) ∧ ((True) ∧ (((2 : Int) ≠ 0) ∧ ((True) ∧ ((True) ∧ ((subC texts.length (some told) none) ∧ ((True) ∧ ((True) ∧ ((subC texts.length none (some got)) ∧ (((True) ∧ ((True) ∧ ((True) ∧ ((True) ∧ (True))))) ∧ (True)))))))))))) ∧ ((True) ∧ ((True) ∧ (True))) := ⟨⟨trivial, ⟨by decide, ⟨trivial, ⟨by decide, ⟨trivial, ⟨trivial, ⟨subB_ok t17, ⟨trivial, ⟨trivial, ⟨subB_ok t18, ⟨⟨trivial, ⟨trivial, ⟨trivial, ⟨trivial, trivial⟩⟩⟩⟩, trivial⟩⟩⟩⟩⟩⟩⟩⟩⟩⟩⟩, ⟨trivial, ⟨trivial, trivial⟩⟩⟩
          refine TS.draw 11 [] [] (by kernel_rfl) ?_ ?_
          · apply prop_of ?_ hq
            kernel_rfl
          refine XS.then ?_
          refine TS.ret ?_
          obtain rfl : ((told.tmod (2 : Int)), (got.tmod (2 : Int)), (texts.drop told.toNat), (texts.take got.toNat), (0 : Int)) = r := Option.some.inj h
          exact XS.fin [] ((True) ∧ ((True) ∧ (True))) (by kernel_rfl) ⟨trivial, ⟨trivial, trivial⟩⟩

/-! plugtree/pluglaw.PipeRuns -/
def F13 (n : Nat) (texts : List (List UInt8)) (fates : List Int) : Option Bool := ((F47 n texts fates).bind fun y_2 => ((F48 n texts fates).bind fun y_3 => ((F40 n y_2.1 y_2.2.1 y_2.2.2.2.1 y_2.2.2.2.2 y_3.1 y_3.2.1 y_3.2.2.1 y_3.2.2.2.1).bind fun y_4 => (bif y_4 then (some (y_2.2.2.1 == y_3.2.2.2.2)) else (some false)))))
theorem F13_ok (n : Nat) (texts : List (List UInt8)) (fates : List Int) (r : Bool) (h : F13 n texts fates = some r) : PureC Try.prog 13 [(.sl .str texts), (.sl (.int .i64) fates)] (.bool r) [] := by
  refine PureC.mkS Try.func13 rfl rfl ?_
  intro w0 fz0 hfz
  replace h : ((F47 n texts fates).bind fun y_2 => ((F48 n texts fates).bind fun y_3 => ((F40 n y_2.1 y_2.2.1 y_2.2.2.2.1 y_2.2.2.2.2 y_3.1 y_3.2.1 y_3.2.2.1 y_3.2.2.2.1).bind fun y_4 => (bif y_4 then (some (y_2.2.2.1 == y_3.2.2.2.2)) else (some false))))) = some r := h
  refine TS.seq ?_
  have hq : (True) ∧ (True) := ⟨trivial, trivial⟩
  refine TS.reg [] ?_ ?_
  · apply prop_of ?_ hq
    kernel_rfl
  refine XS.then ?_
  refine TS.seq ?_
  obtain ⟨y_2, hx1, h⟩ := bind_some' h
  have hq : (True) ∧ ((True) ∧ ((PureC Try.prog 47 [(.sl .str texts), (.sl (.int .i64) fates)] (.tup (.cons (.st (.cons (.int .i64 y_2.1) (.cons (.int .i64 y_2.2.1) (.cons (.row 0) (.row 1))))) (.cons (.int .i64 y_2.2.2.1) .nil))) [(.row 9 .str y_2.2.2.2.1), (.row 9 .str y_2.2.2.2.2)]) ∧ ((True) ∧ ((True) ∧ ((True) ∧ ((True) ∧ ((True) ∧ ((True) ∧ (True))))))))) := ⟨trivial, ⟨trivial, ⟨F47_ok n texts fates y_2 hx1, ⟨trivial, ⟨trivial, ⟨trivial, ⟨trivial, ⟨trivial, ⟨trivial, trivial⟩⟩⟩⟩⟩⟩⟩⟩⟩
  refine TS.reg [.none, .none, (.call (.tup (.cons (.st (.cons (.int .i64 y_2.1) (.cons (.int .i64 y_2.2.1) (.cons (.row 0) (.row 1))))) (.cons (.int .i64 y_2.2.2.1) .nil))) [(.row 9 .str y_2.2.2.2.1), (.row 9 .str y_2.2.2.2.2)])] ?_ ?_
  · apply prop_of ?_ hq
    kernel_rfl
  refine XS.then ?_
  refine TS.seq ?_
  obtain ⟨y_3, hx2, h⟩ := bind_some' h
  have hq : (True) ∧ ((True) ∧ ((PureC Try.prog 48 [(.sl .str texts), (.sl (.int .i64) fates)] (.tup (.cons (.st (.cons (.int .i64 y_3.1) (.cons (.int .i64 y_3.2.1) (.cons (.sl .str y_3.2.2.1) (.sl .str y_3.2.2.2.1))))) (.cons (.int .i64 y_3.2.2.2.2) .nil))) []) ∧ ((True) ∧ ((True) ∧ ((True) ∧ ((True) ∧ ((True) ∧ ((True) ∧ (True))))))))) := ⟨trivial, ⟨trivial, ⟨F48_ok n texts fates y_3 hx2, ⟨trivial, ⟨trivial, ⟨trivial, ⟨trivial, ⟨trivial, ⟨trivial, trivial⟩⟩⟩⟩⟩⟩⟩⟩⟩
  refine TS.reg [.none, .none, (.call (.tup (.cons (.st (.cons (.int .i64 y_3.1) (.cons (.int .i64 y_3.2.1) (.cons (.sl .str y_3.2.2.1) (.sl .str y_3.2.2.2.1))))) (.cons (.int .i64 y_3.2.2.2.2) .nil))) [])] ?_ ?_
  · apply prop_of ?_ hq
    kernel_rfl
  refine XS.then ?_
  refine TS.seq ?_
  obtain ⟨y_4, hx3, h⟩ := bind_some' h
  rcases bif_some h with ⟨c4, h⟩ | ⟨c5, h⟩
  · have hq : (True) ∧ ((True) ∧ (((((True) ∧ ((True) ∧ ((True) ∧ (True)))) ∧ (((True) ∧ ((True) ∧ ((True) ∧ (True)))) ∧ (True))) ∧ PureC Try.prog 40 [(.st (.cons (.int .i64 y_2.1) (.cons (.int .i64 y_2.2.1) (.cons (.sl .str y_2.2.2.2.1) (.sl .str y_2.2.2.2.2))))), (.st (.cons (.int .i64 y_3.1) (.cons (.int .i64 y_3.2.1) (.cons (.sl .str y_3.2.2.1) (.sl .str y_3.2.2.2.1)))))] (.bool y_4) []) ∧ (((True) ∧ y_4 = true) ∧ ((True) ∧ ((True) ∧ ((True) ∧ ((True) ∧ ((True) ∧ (True))))))))) := ⟨trivial, ⟨trivial, ⟨⟨⟨⟨trivial, ⟨trivial, ⟨trivial, trivial⟩⟩⟩, ⟨⟨trivial, ⟨trivial, ⟨trivial, trivial⟩⟩⟩, trivial⟩⟩, F40_ok n y_2.1 y_2.2.1 y_2.2.2.2.1 y_2.2.2.2.2 y_3.1 y_3.2.1 y_3.2.2.1 y_3.2.2.2.1 y_4 hx3⟩, ⟨⟨trivial, c4⟩, ⟨trivial, ⟨trivial, ⟨trivial, ⟨trivial, ⟨trivial, trivial⟩⟩⟩⟩⟩⟩⟩⟩⟩
    refine TS.reg [.none, .none, (.call (.bool y_4) []), .dec true] ?_ ?_
    · apply prop_of ?_ hq
      kernel_rfl
    refine XS.then ?_
    refine TS.ret ?_
    obtain rfl : (y_2.2.2.1 == y_3.2.2.2.2) = r := Option.some.inj h
    exact XS.fin [] ((True) ∧ (True)) (by kernel_rfl) ⟨trivial, trivial⟩
  · have hq : (True) ∧ ((True) ∧ (((((True) ∧ ((True) ∧ ((True) ∧ (True)))) ∧ (((True) ∧ ((True) ∧ ((True) ∧ (True)))) ∧ (True))) ∧ PureC Try.prog 40 [(.st (.cons (.int .i64 y_2.1) (.cons (.int .i64 y_2.2.1) (.cons (.sl .str y_2.2.2.2.1) (.sl .str y_2.2.2.2.2))))), (.st (.cons (.int .i64 y_3.1) (.cons (.int .i64 y_3.2.1) (.cons (.sl .str y_3.2.2.1) (.sl .str y_3.2.2.2.1)))))] (.bool y_4) []) ∧ (((True) ∧ y_4 = false) ∧ ((True) ∧ ((True) ∧ (True)))))) := ⟨trivial, ⟨trivial, ⟨⟨⟨⟨trivial, ⟨trivial, ⟨trivial, trivial⟩⟩⟩, ⟨⟨trivial, ⟨trivial, ⟨trivial, trivial⟩⟩⟩, trivial⟩⟩, F40_ok n y_2.1 y_2.2.1 y_2.2.2.2.1 y_2.2.2.2.2 y_3.1 y_3.2.1 y_3.2.2.1 y_3.2.2.2.1 y_4 hx3⟩, ⟨⟨trivial, c5⟩, ⟨trivial, ⟨trivial, trivial⟩⟩⟩⟩⟩⟩
    refine TS.reg [.none, .none, (.call (.bool y_4) []), .dec false] ?_ ?_
    · apply prop_of ?_ hq
      kernel_rfl
    refine XS.then ?_
    refine TS.ret ?_
    obtain rfl : false = r := Option.some.inj h
    exact XS.fin [] ((True) ∧ (True)) (by kernel_rfl) ⟨trivial, trivial⟩
end Go.Proofs.Ytbeilpecdimheaa
