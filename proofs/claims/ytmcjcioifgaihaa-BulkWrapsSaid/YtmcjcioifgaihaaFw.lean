/- Functions of the program, as functions of values. -/
import Derived.Test.YtmcjcioifgaihaaAm28
import Derived.Test.YtmcjcioifgaihaaShelf
import Derived.Test.YtmcjcioifgaihaaChecked
namespace Go.Proofs.Ytmcjcioifgaihaa
open Go Go.RowKit
set_option linter.unusedVariables false
set_option maxRecDepth 100000

/-! plugtree/bulk.is32 -/
def F77 (n : Nat) (vn : Int) : Option Bool := (bif (decide (vn ≥ (0 : Int))) then (some (decide (vn < (4294967296 : Int)))) else (some false))
theorem F77_ok (n : Nat) (vn : Int) (r : Bool) (h : F77 n vn = some r) : PureC Try.prog 77 [(.int .i64 vn)] (.bool r) [] := by
  refine PureC.mkS Try.func77 rfl rfl ?_
  intro w0 fz0 hfz
  replace h : (bif (decide (vn ≥ (0 : Int))) then (some (decide (vn < (4294967296 : Int)))) else (some false)) = some r := h
  refine TS.seq ?_
  have hq : (True) ∧ (True) := ⟨trivial, trivial⟩
  refine TS.reg [] ?_ ?_
  · apply prop_of ?_ hq
    kernel_rfl
  refine XS.then ?_
  refine TS.seq ?_
  rcases bif_some h with ⟨c1, h⟩ | ⟨c2, h⟩
  · have hq : (True) ∧ ((True) ∧ (((True) ∧ (decide (vn ≥ (0 : Int))) = true) ∧ ((True) ∧ ((True) ∧ ((True) ∧ ((True) ∧ (True))))))) := ⟨trivial, ⟨trivial, ⟨⟨trivial, c1⟩, ⟨trivial, ⟨trivial, ⟨trivial, ⟨trivial, trivial⟩⟩⟩⟩⟩⟩⟩
    refine TS.reg [.none, .none, .dec true] ?_ ?_
    · apply prop_of ?_ hq
      kernel_rfl
    refine XS.then ?_
    refine TS.ret ?_
    obtain rfl : (decide (vn < (4294967296 : Int))) = r := Option.some.inj h
    exact XS.fin [] ((True) ∧ (True)) (by kernel_rfl) ⟨trivial, trivial⟩
  · have hq : (True) ∧ ((True) ∧ (((True) ∧ (decide (vn ≥ (0 : Int))) = false) ∧ ((True) ∧ ((True) ∧ (True))))) := ⟨trivial, ⟨trivial, ⟨⟨trivial, c2⟩, ⟨trivial, ⟨trivial, trivial⟩⟩⟩⟩⟩
    refine TS.reg [.none, .none, .dec false] ?_ ?_
    · apply prop_of ?_ hq
      kernel_rfl
    refine XS.then ?_
    refine TS.ret ?_
    obtain rfl : false = r := Option.some.inj h
    exact XS.fin [] ((True) ∧ (True)) (by kernel_rfl) ⟨trivial, trivial⟩

/-! plugtree/bulk.long -/
def F78 (n : Nat) (vn : Int) : Option (List UInt8) := (some (strOf [(IntKind.wrap .u8 (vn)), (IntKind.wrap .u8 ((shrI .i64 vn (8 : Int)))), (IntKind.wrap .u8 ((shrI .i64 vn (16 : Int)))), (IntKind.wrap .u8 ((shrI .i64 vn (24 : Int))))]))
theorem F78_ok (n : Nat) (vn : Int) (r : List UInt8) (h : F78 n vn = some r) : PureC Try.prog 78 [(.int .i64 vn)] (.str r) [] := by
  refine PureC.mkS Try.func78 rfl rfl ?_
  intro w0 fz0 hfz
  replace h : (some (strOf [(IntKind.wrap .u8 (vn)), (IntKind.wrap .u8 ((shrI .i64 vn (8 : Int)))), (IntKind.wrap .u8 ((shrI .i64 vn (16 : Int)))), (IntKind.wrap .u8 ((shrI .i64 vn (24 : Int))))])) = some r := h
  refine TS.seq ?_
  have hq : (True) ∧ (True) := ⟨trivial, trivial⟩
  refine TS.reg [] ?_ ?_
  · apply prop_of ?_ hq
    kernel_rfl
  refine XS.then ?_
  refine TS.seq ?_
  have hq : (True) ∧ ((True) ∧ ((True) ∧ ((0 ≤ (8 : Int)) ∧ ((True) ∧ ((True) ∧ ((0 ≤ (16 : Int)) ∧ ((True) ∧ ((True) ∧ ((0 ≤ (24 : Int)) ∧ ((True) ∧ (((0 < 4 ∧ True) ∧ ((1 < 4 ∧ True) ∧ ((2 < 4 ∧ True) ∧ ((3 < 4 ∧ True) ∧ (True))))) ∧ ((True) ∧ ((True) ∧ (True)))))))))))))) := ⟨trivial, ⟨trivial, ⟨trivial, ⟨by decide, ⟨trivial, ⟨trivial, ⟨by decide, ⟨trivial, ⟨trivial, ⟨by decide, ⟨trivial, ⟨⟨⟨by decide, trivial⟩, ⟨⟨by decide, trivial⟩, ⟨⟨by decide, trivial⟩, ⟨⟨by decide, trivial⟩, trivial⟩⟩⟩⟩, ⟨trivial, ⟨trivial, trivial⟩⟩⟩⟩⟩⟩⟩⟩⟩⟩⟩⟩⟩⟩
  refine TS.reg [] ?_ ?_
  · apply prop_of ?_ hq
    kernel_rfl
  refine XS.then ?_
  refine TS.ret ?_
  obtain rfl : (strOf [(IntKind.wrap .u8 (vn)), (IntKind.wrap .u8 ((shrI .i64 vn (8 : Int)))), (IntKind.wrap .u8 ((shrI .i64 vn (16 : Int)))), (IntKind.wrap .u8 ((shrI .i64 vn (24 : Int))))]) = r := Option.some.inj h
  exact XS.fin [] ((True) ∧ (True)) (by kernel_rfl) ⟨trivial, trivial⟩

/-! strings.Repeat -/
def F41 (n : Nat) (s : List UInt8) (count : Int) : Option (List UInt8) := bif decide (0 ≤ count ∧ (s.length : Int) * count ≤ 140737488355328 ∧ count ≤ 9223372036854775807) then some (Lib.repeatL s (count).toNat) else none
theorem F41_ok (n : Nat) (s : List UInt8) (count : Int) (r : List UInt8) (h : F41 n s count = some r) : PureC Try.prog 41 [(.str s), (.int .i64 count)] (.str r) [] := by
  unfold F41 at h
  obtain ⟨c, h⟩ := test_some h
  obtain rfl := Option.some.inj h
  exact PureC.repeat s count (of_decide_eq_true c) Try.strings_Repeat

/-! plugtree/bulk.WriteWrap -/
def F27_j4 (n : Nat) (w_Tag : Int) (w_Length : Int) (w_Unit : Int) (w_Command : List UInt8) : Int → Option ((List UInt8) × Int)
  | flag => ((F78 n w_Tag).bind fun y_3 => (bif (decide (([85, 83, 66, 67] : List UInt8).length + y_3.length ≤ 9223372036854775807)) then ((F78 n w_Length).bind fun y_4 => (bif (decide ((([85, 83, 66, 67] : List UInt8) ++ y_3).length + y_4.length ≤ 9223372036854775807)) then (bif (decide (((([85, 83, 66, 67] : List UInt8) ++ y_3) ++ y_4).length + (strOf [flag, (IntKind.wrap .u8 (w_Unit)), (IntKind.wrap .u8 (((w_Command.length : Nat) : Int)))]).length ≤ 9223372036854775807)) then (bif (decide ((((([85, 83, 66, 67] : List UInt8) ++ y_3) ++ y_4) ++ (strOf [flag, (IntKind.wrap .u8 (w_Unit)), (IntKind.wrap .u8 (((w_Command.length : Nat) : Int)))])).length + w_Command.length ≤ 9223372036854775807)) then ((F41 n ([0] : List UInt8) (IntKind.wrap .i64 ((31 : Int) - ((((((([85, 83, 66, 67] : List UInt8) ++ y_3) ++ y_4) ++ (strOf [flag, (IntKind.wrap .u8 (w_Unit)), (IntKind.wrap .u8 (((w_Command.length : Nat) : Int)))])) ++ w_Command).length : Nat) : Int)))).bind fun y_5 => (bif (decide (((((([85, 83, 66, 67] : List UInt8) ++ y_3) ++ y_4) ++ (strOf [flag, (IntKind.wrap .u8 (w_Unit)), (IntKind.wrap .u8 (((w_Command.length : Nat) : Int)))])) ++ w_Command).length + y_5.length ≤ 9223372036854775807)) then (some ((((((([85, 83, 66, 67] : List UInt8) ++ y_3) ++ y_4) ++ (strOf [flag, (IntKind.wrap .u8 (w_Unit)), (IntKind.wrap .u8 (((w_Command.length : Nat) : Int)))])) ++ w_Command) ++ y_5), (0 : Int))) else none)) else none) else none) else none)) else none))
def F27_j3 (n : Nat) (w_Tag : Int) (w_Length : Int) (w_In : Bool) (w_Unit : Int) (w_Command : List UInt8) : Bool → Option ((List UInt8) × Int)
  | x => (bif x then (some (([] : List UInt8), (1 : Int))) else (bif w_In then (F27_j4 n w_Tag w_Length w_Unit w_Command (128 : Int)) else (F27_j4 n w_Tag w_Length w_Unit w_Command (0 : Int))))
def F27 (n : Nat) (w_Tag : Int) (w_Length : Int) (w_In : Bool) (w_Unit : Int) (w_Command : List UInt8) : Option ((List UInt8) × Int) := ((F77 n w_Tag).bind fun y_6 => (bif (!y_6) then (F27_j3 n w_Tag w_Length w_In w_Unit w_Command true) else ((F77 n w_Length).bind fun y_7 => (bif (!y_7) then (F27_j3 n w_Tag w_Length w_In w_Unit w_Command true) else (bif (decide (w_Unit < (0 : Int))) then (F27_j3 n w_Tag w_Length w_In w_Unit w_Command true) else (bif (decide (w_Unit > (15 : Int))) then (F27_j3 n w_Tag w_Length w_In w_Unit w_Command true) else (bif (decide (((w_Command.length : Nat) : Int) < (1 : Int))) then (F27_j3 n w_Tag w_Length w_In w_Unit w_Command true) else (F27_j3 n w_Tag w_Length w_In w_Unit w_Command (decide (((w_Command.length : Nat) : Int) > (16 : Int)))))))))))
theorem F27_ok (n : Nat) (w_Tag : Int) (w_Length : Int) (w_In : Bool) (w_Unit : Int) (w_Command : List UInt8) (r : (List UInt8) × Int) (h : F27 n w_Tag w_Length w_In w_Unit w_Command = some r) : PureC Try.prog 27 [(.st (.cons (.int .i64 w_Tag) (.cons (.int .i64 w_Length) (.cons (.bool w_In) (.cons (.int .i64 w_Unit) (.str w_Command))))))] (.tup (.cons (.str r.1) (.cons (.int .i64 r.2) .nil))) [] := by
  refine PureC.mkS Try.func27 rfl rfl ?_
  intro w0 fz0 hfz
  replace h : ((F77 n w_Tag).bind fun y_6 => (bif (!y_6) then (F27_j3 n w_Tag w_Length w_In w_Unit w_Command true) else ((F77 n w_Length).bind fun y_7 => (bif (!y_7) then (F27_j3 n w_Tag w_Length w_In w_Unit w_Command true) else (bif (decide (w_Unit < (0 : Int))) then (F27_j3 n w_Tag w_Length w_In w_Unit w_Command true) else (bif (decide (w_Unit > (15 : Int))) then (F27_j3 n w_Tag w_Length w_In w_Unit w_Command true) else (bif (decide (((w_Command.length : Nat) : Int) < (1 : Int))) then (F27_j3 n w_Tag w_Length w_In w_Unit w_Command true) else (F27_j3 n w_Tag w_Length w_In w_Unit w_Command (decide (((w_Command.length : Nat) : Int) > (16 : Int))))))))))) = some r := h
  refine TS.seq ?_
  have hq : (True) ∧ ((True) ∧ ((True) ∧ (True))) := ⟨trivial, ⟨trivial, ⟨trivial, trivial⟩⟩⟩
  refine TS.reg [] ?_ ?_
  · apply prop_of ?_ hq
    kernel_rfl
  refine XS.then ?_
  refine TS.seq ?_
  refine TS.seq ?_
  refine TS.cut (D := Bool) (fun d => match d with | x => (mkTs 68 [(1, (.ptr 0 [])), (37, (.bool x))], [(.box 52 (.st (.cons (.int .i64 w_Tag) (.cons (.int .i64 w_Length) (.cons (.bool w_In) (.cons (.int .i64 w_Unit) (.str w_Command)))))))])) (fun d => F27_j3 n w_Tag w_Length w_In w_Unit w_Command d = some r) ?_ ?_
  · rintro x h
    replace h : (bif x then (some (([] : List UInt8), (1 : Int))) else (bif w_In then (F27_j4 n w_Tag w_Length w_Unit w_Command (128 : Int)) else (F27_j4 n w_Tag w_Length w_Unit w_Command (0 : Int)))) = some r := h
    refine XS.then ?_
    rcases bif_some h with ⟨c1, h⟩ | ⟨c2, h⟩
    · refine TS.cond x ?_ (fun hcz => ?_) (fun hcz => by rw [c1] at hcz; cases hcz)
      · kernel_rfl
      refine TS.seq ?_
      have hq : (True) ∧ ((True) ∧ (True)) := ⟨trivial, ⟨trivial, trivial⟩⟩
      refine TS.reg [] ?_ ?_
      · apply prop_of ?_ hq
        kernel_rfl
      refine XS.then ?_
      refine TS.ret ?_
      refine XS.passR ?_
      obtain rfl : (([] : List UInt8), (1 : Int)) = r := Option.some.inj h
      exact XS.fin [] ((True) ∧ ((True) ∧ (True))) (by kernel_rfl) ⟨trivial, ⟨trivial, trivial⟩⟩
    · refine TS.cond x ?_ (fun hcz => by rw [c2] at hcz; cases hcz) (fun hcz => ?_)
      · kernel_rfl
      refine TS.skip ?_
      refine XS.then ?_
      refine TS.seq ?_
      have hq : (True) ∧ (True) := ⟨trivial, trivial⟩
      refine TS.reg [] ?_ ?_
      · apply prop_of ?_ hq
        kernel_rfl
      refine XS.then ?_
      refine TS.seq ?_
      refine TS.seq ?_
      have hq : (True) ∧ ((True) ∧ (True)) := ⟨trivial, ⟨trivial, trivial⟩⟩
      refine TS.reg [] ?_ ?_
      · apply prop_of ?_ hq
        kernel_rfl
      refine XS.then ?_
      refine TS.cut (D := Int) (fun d => match d with | flag => (mkTs 68 [(1, (.ptr 0 [])), (4, (.int .u8 flag))], [(.box 52 (.st (.cons (.int .i64 w_Tag) (.cons (.int .i64 w_Length) (.cons (.bool w_In) (.cons (.int .i64 w_Unit) (.str w_Command)))))))])) (fun d => F27_j4 n w_Tag w_Length w_Unit w_Command d = some r) ?_ ?_
      · rintro flag h
        replace h : ((F78 n w_Tag).bind fun y_3 => (bif (decide (([85, 83, 66, 67] : List UInt8).length + y_3.length ≤ 9223372036854775807)) then ((F78 n w_Length).bind fun y_4 => (bif (decide ((([85, 83, 66, 67] : List UInt8) ++ y_3).length + y_4.length ≤ 9223372036854775807)) then (bif (decide (((([85, 83, 66, 67] : List UInt8) ++ y_3) ++ y_4).length + (strOf [flag, (IntKind.wrap .u8 (w_Unit)), (IntKind.wrap .u8 (((w_Command.length : Nat) : Int)))]).length ≤ 9223372036854775807)) then (bif (decide ((((([85, 83, 66, 67] : List UInt8) ++ y_3) ++ y_4) ++ (strOf [flag, (IntKind.wrap .u8 (w_Unit)), (IntKind.wrap .u8 (((w_Command.length : Nat) : Int)))])).length + w_Command.length ≤ 9223372036854775807)) then ((F41 n ([0] : List UInt8) (IntKind.wrap .i64 ((31 : Int) - ((((((([85, 83, 66, 67] : List UInt8) ++ y_3) ++ y_4) ++ (strOf [flag, (IntKind.wrap .u8 (w_Unit)), (IntKind.wrap .u8 (((w_Command.length : Nat) : Int)))])) ++ w_Command).length : Nat) : Int)))).bind fun y_5 => (bif (decide (((((([85, 83, 66, 67] : List UInt8) ++ y_3) ++ y_4) ++ (strOf [flag, (IntKind.wrap .u8 (w_Unit)), (IntKind.wrap .u8 (((w_Command.length : Nat) : Int)))])) ++ w_Command).length + y_5.length ≤ 9223372036854775807)) then (some ((((((([85, 83, 66, 67] : List UInt8) ++ y_3) ++ y_4) ++ (strOf [flag, (IntKind.wrap .u8 (w_Unit)), (IntKind.wrap .u8 (((w_Command.length : Nat) : Int)))])) ++ w_Command) ++ y_5), (0 : Int))) else none)) else none) else none) else none)) else none)) = some r := h
        refine XS.then ?_
        refine TS.seq ?_
        obtain ⟨y_3, hx3, h⟩ := bind_some' h
        obtain ⟨t4, h⟩ := test_some h
        obtain ⟨y_4, hx5, h⟩ := bind_some' h
        obtain ⟨t6, h⟩ := test_some h
        obtain ⟨t7, h⟩ := test_some h
        obtain ⟨t8, h⟩ := test_some h
        have hq : ((True) ∧ ((True) ∧ ((PureC Try.prog 78 [(.int .i64 w_Tag)] (.str y_3) []) ∧ ((([85, 83, 66, 67] : List UInt8).length + y_3.length ≤ 9223372036854775807) ∧ ((True) ∧ ((True) ∧ ((PureC Try.prog 78 [(.int .i64 w_Length)] (.str y_4) []) ∧ (((([85, 83, 66, 67] : List UInt8) ++ y_3).length + y_4.length ≤ 9223372036854775807) ∧ ((True) ∧ ((True) ∧ ((True) ∧ ((True) ∧ ((True) ∧ ((True) ∧ ((True) ∧ ((True) ∧ (((0 < 3 ∧ True) ∧ ((1 < 3 ∧ True) ∧ ((2 < 3 ∧ True) ∧ (True)))) ∧ ((True) ∧ ((((([85, 83, 66, 67] : List UInt8) ++ y_3) ++ y_4).length + (strOf [flag, (IntKind.wrap .u8 (w_Unit)), (IntKind.wrap .u8 (((w_Command.length : Nat) : Int)))]).length ≤ 9223372036854775807) ∧ ((True) ∧ ((True) ∧ (((((([85, 83, 66, 67] : List UInt8) ++ y_3) ++ y_4) ++ (strOf [flag, (IntKind.wrap .u8 (w_Unit)), (IntKind.wrap .u8 (((w_Command.length : Nat) : Int)))])).length + w_Command.length ≤ 9223372036854775807) ∧ (True))))))))))))))))))))))) ∧ ((True) ∧ (True)) := ⟨⟨trivial, ⟨trivial, ⟨F78_ok n w_Tag y_3 hx3, ⟨of_decide_eq_true t4, ⟨trivial, ⟨trivial, ⟨F78_ok n w_Length y_4 hx5, ⟨of_decide_eq_true t6, ⟨trivial, ⟨trivial, ⟨trivial, ⟨trivial, ⟨trivial, ⟨trivial, ⟨trivial, ⟨trivial, ⟨⟨⟨by decide, trivial⟩, ⟨⟨by decide, trivial⟩, ⟨⟨by decide, trivial⟩, trivial⟩⟩⟩, ⟨trivial, ⟨of_decide_eq_true t7, ⟨trivial, ⟨trivial, ⟨of_decide_eq_true t8, trivial⟩⟩⟩⟩⟩⟩⟩⟩⟩⟩⟩⟩⟩⟩⟩⟩⟩⟩⟩⟩⟩⟩, ⟨trivial, trivial⟩⟩
        refine TS.draw 22 [] [.none, .none, (.call (.str y_3) []), .none, .none, .none, (.call (.str y_4) [])] (by kernel_rfl) ?_ ?_
        · apply prop_of ?_ hq
          kernel_rfl
        refine XS.then ?_
        refine TS.seq ?_
        obtain ⟨y_5, hx9, h⟩ := bind_some' h
        obtain ⟨t10, h⟩ := test_some h
        have hq : (True) ∧ ((True) ∧ ((True) ∧ ((True) ∧ ((PureC Try.prog 41 [(.str ([0] : List UInt8)), (.int .i64 (IntKind.wrap .i64 ((31 : Int) - ((((((([85, 83, 66, 67] : List UInt8) ++ y_3) ++ y_4) ++ (strOf [flag, (IntKind.wrap .u8 (w_Unit)), (IntKind.wrap .u8 (((w_Command.length : Nat) : Int)))])) ++ w_Command).length : Nat) : Int))))] (.str y_5) []) ∧ ((((((([85, 83, 66, 67] : List UInt8) ++ y_3) ++ y_4) ++ (strOf [flag, (IntKind.wrap .u8 (w_Unit)), (IntKind.wrap .u8 (((w_Command.length : Nat) : Int)))])) ++ w_Command).length + y_5.length ≤ 9223372036854775807) ∧ ((True) ∧ ((True) ∧ (True)))))))) := ⟨trivial, ⟨trivial, ⟨trivial, ⟨trivial, ⟨F41_ok n ([0] : List UInt8) (IntKind.wrap .i64 ((31 : Int) - ((((((([85, 83, 66, 67] : List UInt8) ++ y_3) ++ y_4) ++ (strOf [flag, (IntKind.wrap .u8 (w_Unit)), (IntKind.wrap .u8 (((w_Command.length : Nat) : Int)))])) ++ w_Command).length : Nat) : Int))) y_5 hx9, ⟨of_decide_eq_true t10, ⟨trivial, ⟨trivial, trivial⟩⟩⟩⟩⟩⟩⟩⟩
        refine TS.reg [.none, .none, .none, .none, (.call (.str y_5) [])] ?_ ?_
        · apply prop_of ?_ hq
          kernel_rfl
        refine XS.then ?_
        refine TS.ret ?_
        obtain rfl : ((((((([85, 83, 66, 67] : List UInt8) ++ y_3) ++ y_4) ++ (strOf [flag, (IntKind.wrap .u8 (w_Unit)), (IntKind.wrap .u8 (((w_Command.length : Nat) : Int)))])) ++ w_Command) ++ y_5), (0 : Int)) = r := Option.some.inj h
        exact XS.fin [] ((True) ∧ ((True) ∧ (True))) (by kernel_rfl) ⟨trivial, ⟨trivial, trivial⟩⟩
      · rcases bif_some h with ⟨c11, h⟩ | ⟨c12, h⟩
        · refine TS.cond w_In ?_ (fun hcz => ?_) (fun hcz => by rw [c11] at hcz; cases hcz)
          · kernel_rfl
          have hq : (True) ∧ (True) := ⟨trivial, trivial⟩
          refine TS.reg [] ?_ ?_
          · apply prop_of ?_ hq
            kernel_rfl
          refine XS.reAny [0] (mkMask 68 [1, 4]) (128 : Int) h ?_
          kernel_rfl
        · refine TS.cond w_In ?_ (fun hcz => by rw [c12] at hcz; cases hcz) (fun hcz => ?_)
          · kernel_rfl
          refine TS.skip ?_
          refine XS.reAny [0] (mkMask 68 [1, 4]) (0 : Int) h ?_
          kernel_rfl
  · obtain ⟨y_6, hx13, h⟩ := bind_some' h
    rcases bif_some h with ⟨c14, h⟩ | ⟨c15, h⟩
    · have hq : (True) ∧ ((True) ∧ ((PureC Try.prog 77 [(.int .i64 w_Tag)] (.bool y_6) []) ∧ ((True) ∧ (((True) ∧ (!y_6) = true) ∧ ((True) ∧ ((True) ∧ ((True) ∧ ((True) ∧ ((True) ∧ ((True) ∧ ((True) ∧ ((True) ∧ ((True) ∧ (True)))))))))))))) := ⟨trivial, ⟨trivial, ⟨F77_ok n w_Tag y_6 hx13, ⟨trivial, ⟨⟨trivial, c14⟩, ⟨trivial, ⟨trivial, ⟨trivial, ⟨trivial, ⟨trivial, ⟨trivial, ⟨trivial, ⟨trivial, ⟨trivial, trivial⟩⟩⟩⟩⟩⟩⟩⟩⟩⟩⟩⟩⟩⟩
      refine TS.reg [.none, .none, (.call (.bool y_6) []), .none, .dec true] ?_ ?_
      · apply prop_of ?_ hq
        kernel_rfl
      refine XS.reAny [0] (mkMask 68 [1, 37]) true h ?_
      kernel_rfl
    · obtain ⟨y_7, hx16, h⟩ := bind_some' h
      rcases bif_some h with ⟨c17, h⟩ | ⟨c18, h⟩
      · have hq : (True) ∧ ((True) ∧ ((PureC Try.prog 77 [(.int .i64 w_Tag)] (.bool y_6) []) ∧ ((True) ∧ (((True) ∧ (!y_6) = false) ∧ ((True) ∧ ((True) ∧ ((PureC Try.prog 77 [(.int .i64 w_Length)] (.bool y_7) []) ∧ ((True) ∧ ((True) ∧ (((True) ∧ (!y_7) = true) ∧ ((True) ∧ ((True) ∧ ((True) ∧ ((True) ∧ ((True) ∧ ((True) ∧ ((True) ∧ (True)))))))))))))))))) := ⟨trivial, ⟨trivial, ⟨F77_ok n w_Tag y_6 hx13, ⟨trivial, ⟨⟨trivial, c15⟩, ⟨trivial, ⟨trivial, ⟨F77_ok n w_Length y_7 hx16, ⟨trivial, ⟨trivial, ⟨⟨trivial, c17⟩, ⟨trivial, ⟨trivial, ⟨trivial, ⟨trivial, ⟨trivial, ⟨trivial, ⟨trivial, trivial⟩⟩⟩⟩⟩⟩⟩⟩⟩⟩⟩⟩⟩⟩⟩⟩⟩⟩
        refine TS.reg [.none, .none, (.call (.bool y_6) []), .none, .dec false, .none, .none, (.call (.bool y_7) []), .none, .none, .dec true] ?_ ?_
        · apply prop_of ?_ hq
          kernel_rfl
        refine XS.reAny [0] (mkMask 68 [1, 37]) true h ?_
        kernel_rfl
      · rcases bif_some h with ⟨c19, h⟩ | ⟨c20, h⟩
        · have hq : (True) ∧ ((True) ∧ ((PureC Try.prog 77 [(.int .i64 w_Tag)] (.bool y_6) []) ∧ ((True) ∧ (((True) ∧ (!y_6) = false) ∧ ((True) ∧ ((True) ∧ ((PureC Try.prog 77 [(.int .i64 w_Length)] (.bool y_7) []) ∧ ((True) ∧ ((True) ∧ (((True) ∧ (!y_7) = false) ∧ ((True) ∧ ((True) ∧ ((True) ∧ ((True) ∧ (((True) ∧ (decide (w_Unit < (0 : Int))) = true) ∧ ((True) ∧ ((True) ∧ ((True) ∧ ((True) ∧ ((True) ∧ (True))))))))))))))))))))) := ⟨trivial, ⟨trivial, ⟨F77_ok n w_Tag y_6 hx13, ⟨trivial, ⟨⟨trivial, c15⟩, ⟨trivial, ⟨trivial, ⟨F77_ok n w_Length y_7 hx16, ⟨trivial, ⟨trivial, ⟨⟨trivial, c18⟩, ⟨trivial, ⟨trivial, ⟨trivial, ⟨trivial, ⟨⟨trivial, c19⟩, ⟨trivial, ⟨trivial, ⟨trivial, ⟨trivial, ⟨trivial, trivial⟩⟩⟩⟩⟩⟩⟩⟩⟩⟩⟩⟩⟩⟩⟩⟩⟩⟩⟩⟩⟩
          refine TS.reg [.none, .none, (.call (.bool y_6) []), .none, .dec false, .none, .none, (.call (.bool y_7) []), .none, .none, .dec false, .none, .none, .none, .none, .dec true] ?_ ?_
          · apply prop_of ?_ hq
            kernel_rfl
          refine XS.reAny [0] (mkMask 68 [1, 37]) true h ?_
          kernel_rfl
        · rcases bif_some h with ⟨c21, h⟩ | ⟨c22, h⟩
          · have hq : (True) ∧ ((True) ∧ ((PureC Try.prog 77 [(.int .i64 w_Tag)] (.bool y_6) []) ∧ ((True) ∧ (((True) ∧ (!y_6) = false) ∧ ((True) ∧ ((True) ∧ ((PureC Try.prog 77 [(.int .i64 w_Length)] (.bool y_7) []) ∧ ((True) ∧ ((True) ∧ (((True) ∧ (!y_7) = false) ∧ ((True) ∧ ((True) ∧ ((True) ∧ ((True) ∧ (((True) ∧ (decide (w_Unit < (0 : Int))) = false) ∧ ((True) ∧ ((True) ∧ ((True) ∧ ((True) ∧ (((True) ∧ (decide (w_Unit > (15 : Int))) = true) ∧ ((True) ∧ ((True) ∧ ((True) ∧ (True)))))))))))))))))))))))) := ⟨trivial, ⟨trivial, ⟨F77_ok n w_Tag y_6 hx13, ⟨trivial, ⟨⟨trivial, c15⟩, ⟨trivial, ⟨trivial, ⟨F77_ok n w_Length y_7 hx16, ⟨trivial, ⟨trivial, ⟨⟨trivial, c18⟩, ⟨trivial, ⟨trivial, ⟨trivial, ⟨trivial, ⟨⟨trivial, c20⟩, ⟨trivial, ⟨trivial, ⟨trivial, ⟨trivial, ⟨⟨trivial, c21⟩, ⟨trivial, ⟨trivial, ⟨trivial, trivial⟩⟩⟩⟩⟩⟩⟩⟩⟩⟩⟩⟩⟩⟩⟩⟩⟩⟩⟩⟩⟩⟩⟩⟩
            refine TS.reg [.none, .none, (.call (.bool y_6) []), .none, .dec false, .none, .none, (.call (.bool y_7) []), .none, .none, .dec false, .none, .none, .none, .none, .dec false, .none, .none, .none, .none, .dec true] ?_ ?_
            · apply prop_of ?_ hq
              kernel_rfl
            refine XS.reAny [0] (mkMask 68 [1, 37]) true h ?_
            kernel_rfl
          · rcases bif_some h with ⟨c23, h⟩ | ⟨c24, h⟩
            · have hq : (True) ∧ ((True) ∧ ((PureC Try.prog 77 [(.int .i64 w_Tag)] (.bool y_6) []) ∧ ((True) ∧ (((True) ∧ (!y_6) = false) ∧ ((True) ∧ ((True) ∧ ((PureC Try.prog 77 [(.int .i64 w_Length)] (.bool y_7) []) ∧ ((True) ∧ ((True) ∧ (((True) ∧ (!y_7) = false) ∧ ((True) ∧ ((True) ∧ ((True) ∧ ((True) ∧ (((True) ∧ (decide (w_Unit < (0 : Int))) = false) ∧ ((True) ∧ ((True) ∧ ((True) ∧ ((True) ∧ (((True) ∧ (decide (w_Unit > (15 : Int))) = false) ∧ ((True) ∧ ((True) ∧ ((True) ∧ ((True) ∧ ((True) ∧ (((True) ∧ (decide (((w_Command.length : Nat) : Int) < (1 : Int))) = true) ∧ ((True) ∧ (True)))))))))))))))))))))))))))) := ⟨trivial, ⟨trivial, ⟨F77_ok n w_Tag y_6 hx13, ⟨trivial, ⟨⟨trivial, c15⟩, ⟨trivial, ⟨trivial, ⟨F77_ok n w_Length y_7 hx16, ⟨trivial, ⟨trivial, ⟨⟨trivial, c18⟩, ⟨trivial, ⟨trivial, ⟨trivial, ⟨trivial, ⟨⟨trivial, c20⟩, ⟨trivial, ⟨trivial, ⟨trivial, ⟨trivial, ⟨⟨trivial, c22⟩, ⟨trivial, ⟨trivial, ⟨trivial, ⟨trivial, ⟨trivial, ⟨⟨trivial, c23⟩, ⟨trivial, trivial⟩⟩⟩⟩⟩⟩⟩⟩⟩⟩⟩⟩⟩⟩⟩⟩⟩⟩⟩⟩⟩⟩⟩⟩⟩⟩⟩⟩
              refine TS.reg [.none, .none, (.call (.bool y_6) []), .none, .dec false, .none, .none, (.call (.bool y_7) []), .none, .none, .dec false, .none, .none, .none, .none, .dec false, .none, .none, .none, .none, .dec false, .none, .none, .none, .none, .none, .dec true] ?_ ?_
              · apply prop_of ?_ hq
                kernel_rfl
              refine XS.reAny [0] (mkMask 68 [1, 37]) true h ?_
              kernel_rfl
            · have hq : (True) ∧ ((True) ∧ ((PureC Try.prog 77 [(.int .i64 w_Tag)] (.bool y_6) []) ∧ ((True) ∧ (((True) ∧ (!y_6) = false) ∧ ((True) ∧ ((True) ∧ ((PureC Try.prog 77 [(.int .i64 w_Length)] (.bool y_7) []) ∧ ((True) ∧ ((True) ∧ (((True) ∧ (!y_7) = false) ∧ ((True) ∧ ((True) ∧ ((True) ∧ ((True) ∧ (((True) ∧ (decide (w_Unit < (0 : Int))) = false) ∧ ((True) ∧ ((True) ∧ ((True) ∧ ((True) ∧ (((True) ∧ (decide (w_Unit > (15 : Int))) = false) ∧ ((True) ∧ ((True) ∧ ((True) ∧ ((True) ∧ ((True) ∧ (((True) ∧ (decide (((w_Command.length : Nat) : Int) < (1 : Int))) = false) ∧ ((True) ∧ ((True) ∧ ((True) ∧ ((True) ∧ ((True) ∧ (True)))))))))))))))))))))))))))))))) := ⟨trivial, ⟨trivial, ⟨F77_ok n w_Tag y_6 hx13, ⟨trivial, ⟨⟨trivial, c15⟩, ⟨trivial, ⟨trivial, ⟨F77_ok n w_Length y_7 hx16, ⟨trivial, ⟨trivial, ⟨⟨trivial, c18⟩, ⟨trivial, ⟨trivial, ⟨trivial, ⟨trivial, ⟨⟨trivial, c20⟩, ⟨trivial, ⟨trivial, ⟨trivial, ⟨trivial, ⟨⟨trivial, c22⟩, ⟨trivial, ⟨trivial, ⟨trivial, ⟨trivial, ⟨trivial, ⟨⟨trivial, c24⟩, ⟨trivial, ⟨trivial, ⟨trivial, ⟨trivial, ⟨trivial, trivial⟩⟩⟩⟩⟩⟩⟩⟩⟩⟩⟩⟩⟩⟩⟩⟩⟩⟩⟩⟩⟩⟩⟩⟩⟩⟩⟩⟩⟩⟩⟩⟩
              refine TS.reg [.none, .none, (.call (.bool y_6) []), .none, .dec false, .none, .none, (.call (.bool y_7) []), .none, .none, .dec false, .none, .none, .none, .none, .dec false, .none, .none, .none, .none, .dec false, .none, .none, .none, .none, .none, .dec false] ?_ ?_
              · apply prop_of ?_ hq
                kernel_rfl
              refine XS.reAny [0] (mkMask 68 [1, 37]) (decide (((w_Command.length : Nat) : Int) > (16 : Int))) h ?_
              kernel_rfl

/-! plugtree/plugref.Two -/
def F110_l2 (n : Nat) (k : Int) (k110_2 : (Int × Int) → Option Int) : (Int × Int) → Option Int
  | (vn, x) => (bif (decide (x < k)) then (k110_2 ((IntKind.wrap .i64 (vn * (2 : Int))), (IntKind.wrap .i64 (x + (1 : Int))))) else (some vn))
def F110 (n : Nat) (k : Int) : Option Int := (loopF (F110_l2 n k) n ((1 : Int), (0 : Int)))
theorem F110_ok (n : Nat) (k : Int) (r : Int) (h : F110 n k = some r) : PureC Try.prog 110 [(.int .i64 k)] (.int .i64 r) [] := by
  refine PureC.mkS Try.func110 rfl rfl ?_
  intro w0 fz0 hfz
  replace h : (loopF (F110_l2 n k) n ((1 : Int), (0 : Int))) = some r := h
  refine TS.seq ?_
  have hq : (True) ∧ (True) := ⟨trivial, trivial⟩
  refine TS.reg [] ?_ ?_
  · apply prop_of ?_ hq
    kernel_rfl
  refine XS.then ?_
  refine TS.seq ?_
  have hq : (True) ∧ (True) := ⟨trivial, trivial⟩
  refine TS.reg [] ?_ ?_
  · apply prop_of ?_ hq
    kernel_rfl
  refine XS.then ?_
  refine TS.seq ?_
  refine TS.seq ?_
  have hq : (True) ∧ ((True) ∧ (True)) := ⟨trivial, ⟨trivial, trivial⟩⟩
  refine TS.reg [] ?_ ?_
  · apply prop_of ?_ hq
    kernel_rfl
  refine XS.then ?_
  refine TS.block ?_
  refine TS.reLoop [] (mkMask 11 [3, 4, 5]) (D := Int × Int) (fun d => match d with | (vn, x) => (mkTs 11 [(3, (.int .i64 vn)), (4, (.int .i64 k)), (5, (.int .i64 x))], [])) (fun n' d => loopF (F110_l2 n k) n' d = some r) n ((1 : Int), (0 : Int)) h ?_ (fun d => loopF_zero _ d r) ?_
  · kernel_rfl
  · rintro n2 ⟨vn, x⟩ h
    replace h : (bif (decide (x < k)) then ((loopF (F110_l2 n k) n2) ((IntKind.wrap .i64 (vn * (2 : Int))), (IntKind.wrap .i64 (x + (1 : Int))))) else (some vn)) = some r := h
    refine TS.seq ?_
    have hq : (True) ∧ (True) := ⟨trivial, trivial⟩
    refine TS.reg [] ?_ ?_
    · apply prop_of ?_ hq
      kernel_rfl
    refine XS.then ?_
    refine TS.seq ?_
    rcases bif_some h with ⟨c1, h⟩ | ⟨c2, h⟩
    · refine TS.cond (decide (x < k)) ?_ (fun hcz => ?_) (fun hcz => by rw [c1] at hcz; cases hcz)
      · kernel_rfl
      refine TS.skip ?_
      refine XS.then ?_
      refine TS.seq ?_
      refine TS.block ?_
      have hq : (True) ∧ ((True) ∧ ((True) ∧ (True))) := ⟨trivial, ⟨trivial, ⟨trivial, trivial⟩⟩⟩
      refine TS.reg [] ?_ ?_
      · apply prop_of ?_ hq
        kernel_rfl
      refine XS.blockEnd ?_
      refine XS.then ?_
      have hq : (True) ∧ ((True) ∧ (True)) := ⟨trivial, ⟨trivial, trivial⟩⟩
      refine TS.reg [] ?_ ?_
      · apply prop_of ?_ hq
        kernel_rfl
      refine XS.reAny [] (mkMask 11 [3, 4, 5]) ((IntKind.wrap .i64 (vn * (2 : Int))), (IntKind.wrap .i64 (x + (1 : Int)))) h ?_
      kernel_rfl
    · refine TS.cond (decide (x < k)) ?_ (fun hcz => by rw [c2] at hcz; cases hcz) (fun hcz => ?_)
      · kernel_rfl
      refine TS.exit ?_
      refine XS.passE ?_
      refine XS.passE ?_
      refine XS.out ?_
      refine XS.then ?_
      refine TS.seq ?_
      have hq : (True) ∧ ((True) ∧ (True)) := ⟨trivial, ⟨trivial, trivial⟩⟩
      refine TS.reg [] ?_ ?_
      · apply prop_of ?_ hq
        kernel_rfl
      refine XS.then ?_
      refine TS.ret ?_
      obtain rfl : vn = r := Option.some.inj h
      exact XS.fin [] ((True) ∧ (True)) (by kernel_rfl) ⟨trivial, trivial⟩

/-! plugtree/plugref.Between -/
def F15 (n : Nat) (vn : Int) (low : Int) (high : Int) : Option Bool := (bif (decide (low ≤ vn)) then (some (decide (vn ≤ high))) else (some false))
theorem F15_ok (n : Nat) (vn : Int) (low : Int) (high : Int) (r : Bool) (h : F15 n vn low high = some r) : PureC Try.prog 15 [(.int .i64 vn), (.int .i64 low), (.int .i64 high)] (.bool r) [] := by
  refine PureC.mkS Try.func15 rfl rfl ?_
  intro w0 fz0 hfz
  replace h : (bif (decide (low ≤ vn)) then (some (decide (vn ≤ high))) else (some false)) = some r := h
  refine TS.seq ?_
  have hq : (True) ∧ (True) := ⟨trivial, trivial⟩
  refine TS.reg [] ?_ ?_
  · apply prop_of ?_ hq
    kernel_rfl
  refine XS.then ?_
  refine TS.seq ?_
  rcases bif_some h with ⟨c1, h⟩ | ⟨c2, h⟩
  · have hq : (True) ∧ ((True) ∧ ((True) ∧ (((True) ∧ (decide (low ≤ vn)) = true) ∧ ((True) ∧ ((True) ∧ ((True) ∧ ((True) ∧ ((True) ∧ (True))))))))) := ⟨trivial, ⟨trivial, ⟨trivial, ⟨⟨trivial, c1⟩, ⟨trivial, ⟨trivial, ⟨trivial, ⟨trivial, ⟨trivial, trivial⟩⟩⟩⟩⟩⟩⟩⟩⟩
    refine TS.reg [.none, .none, .none, .dec true] ?_ ?_
    · apply prop_of ?_ hq
      kernel_rfl
    refine XS.then ?_
    refine TS.ret ?_
    obtain rfl : (decide (vn ≤ high)) = r := Option.some.inj h
    exact XS.fin [] ((True) ∧ (True)) (by kernel_rfl) ⟨trivial, trivial⟩
  · have hq : (True) ∧ ((True) ∧ ((True) ∧ (((True) ∧ (decide (low ≤ vn)) = false) ∧ ((True) ∧ ((True) ∧ (True)))))) := ⟨trivial, ⟨trivial, ⟨trivial, ⟨⟨trivial, c2⟩, ⟨trivial, ⟨trivial, trivial⟩⟩⟩⟩⟩⟩
    refine TS.reg [.none, .none, .none, .dec false] ?_ ?_
    · apply prop_of ?_ hq
      kernel_rfl
    refine XS.then ?_
    refine TS.ret ?_
    obtain rfl : false = r := Option.some.inj h
    exact XS.fin [] ((True) ∧ (True)) (by kernel_rfl) ⟨trivial, trivial⟩

/-! plugtree/plugref.long -/
def F79 (n : Nat) (vn : Int) : Option Bool := ((F110 n (32 : Int)).bind fun y_2 => ((F15 n vn (0 : Int) (IntKind.wrap .i64 (y_2 - (1 : Int)))).bind fun y_3 => (some y_3)))
theorem F79_ok (n : Nat) (vn : Int) (r : Bool) (h : F79 n vn = some r) : PureC Try.prog 79 [(.int .i64 vn)] (.bool r) [] := by
  refine PureC.mkS Try.func79 rfl rfl ?_
  intro w0 fz0 hfz
  replace h : ((F110 n (32 : Int)).bind fun y_2 => ((F15 n vn (0 : Int) (IntKind.wrap .i64 (y_2 - (1 : Int)))).bind fun y_3 => (some y_3))) = some r := h
  refine TS.seq ?_
  have hq : (True) ∧ (True) := ⟨trivial, trivial⟩
  refine TS.reg [] ?_ ?_
  · apply prop_of ?_ hq
    kernel_rfl
  refine XS.then ?_
  refine TS.seq ?_
  obtain ⟨y_2, hx1, h⟩ := bind_some' h
  obtain ⟨y_3, hx2, h⟩ := bind_some' h
  have hq : (True) ∧ ((PureC Try.prog 110 [(.int .i64 (32 : Int))] (.int .i64 y_2) []) ∧ ((True) ∧ ((PureC Try.prog 15 [(.int .i64 vn), (.int .i64 (0 : Int)), (.int .i64 (IntKind.wrap .i64 (y_2 - (1 : Int))))] (.bool y_3) []) ∧ ((True) ∧ (True))))) := ⟨trivial, ⟨F110_ok n (32 : Int) y_2 hx1, ⟨trivial, ⟨F15_ok n vn (0 : Int) (IntKind.wrap .i64 (y_2 - (1 : Int))) y_3 hx2, ⟨trivial, trivial⟩⟩⟩⟩⟩
  refine TS.reg [.none, (.call (.int .i64 y_2) []), .none, (.call (.bool y_3) [])] ?_ ?_
  · apply prop_of ?_ hq
    kernel_rfl
  refine XS.then ?_
  refine TS.ret ?_
  obtain rfl : y_3 = r := Option.some.inj h
  exact XS.fin [] ((True) ∧ (True)) (by kernel_rfl) ⟨trivial, trivial⟩

/-! plugtree/plugref.bytesOf -/
def F63_l2 (n : Nat) (l : List Int) (k63_2 : (Int × (List Int)) → Option ((List UInt8) × Bool)) : (Int × (List Int)) → Option ((List UInt8) × Bool)
  | (x, m0) => (bif (decide (x < ((l.length : Nat) : Int))) then (bif inb x l.length then ((F15 n (l.getD x.toNat (0 : Int)) (0 : Int) (255 : Int)).bind fun y_3 => (bif (!y_3) then (some (([] : List UInt8), false)) else (bif (decide (m0.length + [(IntKind.wrap .u8 ((l.getD x.toNat (0 : Int))))].length ≤ 17179869184)) then (k63_2 ((IntKind.wrap .i64 (x + (1 : Int))), (m0 ++ [(IntKind.wrap .u8 ((l.getD x.toNat (0 : Int))))]))) else none))) else none) else (some ((strOf m0), true)))
def F63 (n : Nat) (l : List Int) : Option ((List UInt8) × Bool) := (loopF (F63_l2 n l) n ((0 : Int), ([] : List Int)))
theorem F63_ok (n : Nat) (l : List Int) (r : (List UInt8) × Bool) (h : F63 n l = some r) : PureC Try.prog 63 [(.sl (.int .i64) l)] (.tup (.cons (.str r.1) (.cons (.bool r.2) .nil))) [] := by
  refine PureC.mkS Try.func63 rfl rfl ?_
  intro w0 fz0 hfz
  replace h : (loopF (F63_l2 n l) n ((0 : Int), ([] : List Int))) = some r := h
  refine TS.seq ?_
  have hq : (True) ∧ ((True) ∧ (True)) := ⟨trivial, ⟨trivial, trivial⟩⟩
  refine TS.reg [] ?_ ?_
  · apply prop_of ?_ hq
    kernel_rfl
  refine XS.then ?_
  refine TS.seq ?_
  have hq : (True) ∧ (True) := ⟨trivial, trivial⟩
  refine TS.reg [] ?_ ?_
  · apply prop_of ?_ hq
    kernel_rfl
  refine XS.then ?_
  refine TS.seq ?_
  refine TS.seq ?_
  have hq : (True) ∧ ((True) ∧ ((True) ∧ (True))) := ⟨trivial, ⟨trivial, ⟨trivial, trivial⟩⟩⟩
  refine TS.reg [] ?_ ?_
  · apply prop_of ?_ hq
    kernel_rfl
  refine XS.then ?_
  refine TS.block ?_
  refine TS.wk (.row false 4 [] 5 (.int .u8)) ?_
  refine TS.reLoop [0] (mkMask 24 [4, 7, 8, 9]) (D := Int × (List Int)) (fun d => match d with | (x, m0) => (mkTs 24 [(4, (.row 0)), (7, (.sl (.int .i64) l)), (8, (.int .i64 ((l.length : Nat) : Int))), (9, (.int .i64 x))], [(.row 5 (.int .u8) m0)])) (fun n' d => loopF (F63_l2 n l) n' d = some r) n ((0 : Int), ([] : List Int)) h ?_ (fun d => loopF_zero _ d r) ?_
  · kernel_rfl
  · rintro n2 ⟨x, m0⟩ h
    replace h : (bif (decide (x < ((l.length : Nat) : Int))) then (bif inb x l.length then ((F15 n (l.getD x.toNat (0 : Int)) (0 : Int) (255 : Int)).bind fun y_3 => (bif (!y_3) then (some (([] : List UInt8), false)) else (bif (decide (m0.length + [(IntKind.wrap .u8 ((l.getD x.toNat (0 : Int))))].length ≤ 17179869184)) then ((loopF (F63_l2 n l) n2) ((IntKind.wrap .i64 (x + (1 : Int))), (m0 ++ [(IntKind.wrap .u8 ((l.getD x.toNat (0 : Int))))]))) else none))) else none) else (some ((strOf m0), true))) = some r := h
    refine TS.seq ?_
    have hq : (True) ∧ (True) := ⟨trivial, trivial⟩
    refine TS.reg [] ?_ ?_
    · apply prop_of ?_ hq
      kernel_rfl
    refine XS.then ?_
    refine TS.seq ?_
    rcases bif_some h with ⟨c1, h⟩ | ⟨c2, h⟩
    · refine TS.cond (decide (x < ((l.length : Nat) : Int))) ?_ (fun hcz => ?_) (fun hcz => by rw [c1] at hcz; cases hcz)
      · kernel_rfl
      refine TS.skip ?_
      refine XS.then ?_
      refine TS.seq ?_
      refine TS.block ?_
      refine TS.seq ?_
      obtain ⟨t3, h⟩ := test_some h
      have hq : (inR x l.length) ∧ ((True) ∧ ((True) ∧ (True))) := ⟨inb_ok t3, ⟨trivial, ⟨trivial, trivial⟩⟩⟩
      refine TS.reg [] ?_ ?_
      · apply prop_of ?_ hq
        kernel_rfl
      refine XS.then ?_
      refine TS.seq ?_
      refine TS.seq ?_
      obtain ⟨y_3, hx4, h⟩ := bind_some' h
      have hq : (True) ∧ ((PureC Try.prog 15 [(.int .i64 (l.getD x.toNat (0 : Int))), (.int .i64 (0 : Int)), (.int .i64 (255 : Int))] (.bool y_3) []) ∧ ((True) ∧ (True))) := ⟨trivial, ⟨F15_ok n (l.getD x.toNat (0 : Int)) (0 : Int) (255 : Int) y_3 hx4, ⟨trivial, trivial⟩⟩⟩
      refine TS.reg [.none, (.call (.bool y_3) [])] ?_ ?_
      · apply prop_of ?_ hq
        kernel_rfl
      refine XS.then ?_
      rcases bif_some h with ⟨c5, h⟩ | ⟨c6, h⟩
      · refine TS.cond (!y_3) ?_ (fun hcz => ?_) (fun hcz => by rw [c5] at hcz; cases hcz)
        · kernel_rfl
        refine TS.seq ?_
        have hq : (True) ∧ ((True) ∧ (True)) := ⟨trivial, ⟨trivial, trivial⟩⟩
        refine TS.reg [] ?_ ?_
        · apply prop_of ?_ hq
          kernel_rfl
        refine XS.then ?_
        refine TS.ret ?_
        refine XS.passR ?_
        refine XS.blockRet ?_
        refine XS.passR ?_
        refine XS.passR ?_
        refine XS.blockRet ?_
        refine XS.passR ?_
        obtain rfl : (([] : List UInt8), false) = r := Option.some.inj h
        exact XS.fin [] ((True) ∧ ((True) ∧ (True))) (by kernel_rfl) ⟨trivial, ⟨trivial, trivial⟩⟩
      · refine TS.cond (!y_3) ?_ (fun hcz => by rw [c6] at hcz; cases hcz) (fun hcz => ?_)
        · kernel_rfl
        refine TS.skip ?_
        refine XS.then ?_
        obtain ⟨t7, h⟩ := test_some h
        have hq : (True) ∧ ((True) ∧ ((True) ∧ (((0 < 1 ∧ True) ∧ (True)) ∧ ((m0.length + [(IntKind.wrap .u8 ((l.getD x.toNat (0 : Int))))].length ≤ 17179869184) ∧ ((True) ∧ (True)))))) := ⟨trivial, ⟨trivial, ⟨trivial, ⟨⟨⟨by decide, trivial⟩, trivial⟩, ⟨of_decide_eq_true t7, ⟨trivial, trivial⟩⟩⟩⟩⟩⟩
        refine TS.reg [] ?_ ?_
        · apply prop_of ?_ hq
          kernel_rfl
        refine XS.blockEnd ?_
        refine XS.then ?_
        have hq : (True) ∧ ((True) ∧ (True)) := ⟨trivial, ⟨trivial, trivial⟩⟩
        refine TS.reg [] ?_ ?_
        · apply prop_of ?_ hq
          kernel_rfl
        refine XS.reAny [2] (mkMask 24 [4, 7, 8, 9]) ((IntKind.wrap .i64 (x + (1 : Int))), (m0 ++ [(IntKind.wrap .u8 ((l.getD x.toNat (0 : Int))))])) h ?_
        kernel_rfl
    · refine TS.cond (decide (x < ((l.length : Nat) : Int))) ?_ (fun hcz => by rw [c2] at hcz; cases hcz) (fun hcz => ?_)
      · kernel_rfl
      refine TS.exit ?_
      refine XS.passE ?_
      refine XS.passE ?_
      refine XS.out ?_
      refine XS.then ?_
      refine TS.seq ?_
      have hq : (True) ∧ ((True) ∧ ((True) ∧ ((True) ∧ (True)))) := ⟨trivial, ⟨trivial, ⟨trivial, ⟨trivial, trivial⟩⟩⟩⟩
      refine TS.reg [] ?_ ?_
      · apply prop_of ?_ hq
        kernel_rfl
      refine XS.then ?_
      refine TS.ret ?_
      obtain rfl : ((strOf m0), true) = r := Option.some.inj h
      exact XS.fin [] ((True) ∧ ((True) ∧ (True))) (by kernel_rfl) ⟨trivial, ⟨trivial, trivial⟩⟩

/-! plugtree/plugref.TwoBytes -/
def F65 (n : Nat) (vn : Int) : Option (List UInt8) := (some (strOf [(IntKind.wrap .u8 ((vn.tmod (256 : Int)))), (IntKind.wrap .u8 (((IntKind.wrap .i64 (vn.tdiv (256 : Int))).tmod (256 : Int))))]))
theorem F65_ok (n : Nat) (vn : Int) (r : List UInt8) (h : F65 n vn = some r) : PureC Try.prog 65 [(.int .i64 vn)] (.str r) [] := by
  refine PureC.mkS Try.func65 rfl rfl ?_
  intro w0 fz0 hfz
  replace h : (some (strOf [(IntKind.wrap .u8 ((vn.tmod (256 : Int)))), (IntKind.wrap .u8 (((IntKind.wrap .i64 (vn.tdiv (256 : Int))).tmod (256 : Int))))])) = some r := h
  refine TS.seq ?_
  have hq : (True) ∧ (True) := ⟨trivial, trivial⟩
  refine TS.reg [] ?_ ?_
  · apply prop_of ?_ hq
    kernel_rfl
  refine XS.then ?_
  refine TS.seq ?_
  have hq : (True) ∧ (((256 : Int) ≠ 0) ∧ ((True) ∧ ((True) ∧ (((256 : Int) ≠ 0) ∧ (((256 : Int) ≠ 0) ∧ ((True) ∧ (((0 < 2 ∧ True) ∧ ((1 < 2 ∧ True) ∧ (True))) ∧ ((True) ∧ ((True) ∧ (True)))))))))) := ⟨trivial, ⟨by decide, ⟨trivial, ⟨trivial, ⟨by decide, ⟨by decide, ⟨trivial, ⟨⟨⟨by decide, trivial⟩, ⟨⟨by decide, trivial⟩, trivial⟩⟩, ⟨trivial, ⟨trivial, trivial⟩⟩⟩⟩⟩⟩⟩⟩⟩⟩
  refine TS.reg [] ?_ ?_
  · apply prop_of ?_ hq
    kernel_rfl
  refine XS.then ?_
  refine TS.ret ?_
  obtain rfl : (strOf [(IntKind.wrap .u8 ((vn.tmod (256 : Int)))), (IntKind.wrap .u8 (((IntKind.wrap .i64 (vn.tdiv (256 : Int))).tmod (256 : Int))))]) = r := Option.some.inj h
  exact XS.fin [] ((True) ∧ (True)) (by kernel_rfl) ⟨trivial, trivial⟩

/-! plugtree/plugref.Low -/
def F80 (n : Nat) (vn : Int) : Option (List UInt8) := ((F65 n (vn.tmod (65536 : Int))).bind fun y_2 => ((F65 n (IntKind.wrap .i64 (vn.tdiv (65536 : Int)))).bind fun y_3 => (bif (decide (y_2.length + y_3.length ≤ 9223372036854775807)) then (some (y_2 ++ y_3)) else none)))
theorem F80_ok (n : Nat) (vn : Int) (r : List UInt8) (h : F80 n vn = some r) : PureC Try.prog 80 [(.int .i64 vn)] (.str r) [] := by
  refine PureC.mkS Try.func80 rfl rfl ?_
  intro w0 fz0 hfz
  replace h : ((F65 n (vn.tmod (65536 : Int))).bind fun y_2 => ((F65 n (IntKind.wrap .i64 (vn.tdiv (65536 : Int)))).bind fun y_3 => (bif (decide (y_2.length + y_3.length ≤ 9223372036854775807)) then (some (y_2 ++ y_3)) else none))) = some r := h
  refine TS.seq ?_
  have hq : (True) ∧ (True) := ⟨trivial, trivial⟩
  refine TS.reg [] ?_ ?_
  · apply prop_of ?_ hq
    kernel_rfl
  refine XS.then ?_
  refine TS.seq ?_
  obtain ⟨y_2, hx1, h⟩ := bind_some' h
  obtain ⟨y_3, hx2, h⟩ := bind_some' h
  obtain ⟨t3, h⟩ := test_some h
  have hq : (True) ∧ (((65536 : Int) ≠ 0) ∧ ((PureC Try.prog 65 [(.int .i64 (vn.tmod (65536 : Int)))] (.str y_2) []) ∧ ((True) ∧ (((65536 : Int) ≠ 0) ∧ ((PureC Try.prog 65 [(.int .i64 (IntKind.wrap .i64 (vn.tdiv (65536 : Int))))] (.str y_3) []) ∧ ((y_2.length + y_3.length ≤ 9223372036854775807) ∧ ((True) ∧ (True)))))))) := ⟨trivial, ⟨by decide, ⟨F65_ok n (vn.tmod (65536 : Int)) y_2 hx1, ⟨trivial, ⟨by decide, ⟨F65_ok n (IntKind.wrap .i64 (vn.tdiv (65536 : Int))) y_3 hx2, ⟨of_decide_eq_true t3, ⟨trivial, trivial⟩⟩⟩⟩⟩⟩⟩⟩
  refine TS.reg [.none, .none, (.call (.str y_2) []), .none, .none, (.call (.str y_3) [])] ?_ ?_
  · apply prop_of ?_ hq
    kernel_rfl
  refine XS.then ?_
  refine TS.ret ?_
  obtain rfl : (y_2 ++ y_3) = r := Option.some.inj h
  exact XS.fin [] ((True) ∧ (True)) (by kernel_rfl) ⟨trivial, trivial⟩

/-! plugtree/plugref.WrapText -/
def F28_j4 (n : Nat) (w_Tag : Int) (w_Length : Int) (w_Unit : Int) (w_Command : List UInt8) : Int → Option ((List UInt8) × Int)
  | way => ((F63 n [way, w_Unit, ((w_Command.length : Nat) : Int)]).bind fun y_3 => ((F80 n w_Tag).bind fun y_4 => (bif (decide (([85, 83, 66, 67] : List UInt8).length + y_4.length ≤ 9223372036854775807)) then ((F80 n w_Length).bind fun y_5 => (bif (decide ((([85, 83, 66, 67] : List UInt8) ++ y_4).length + y_5.length ≤ 9223372036854775807)) then (bif (decide (((([85, 83, 66, 67] : List UInt8) ++ y_4) ++ y_5).length + y_3.1.length ≤ 9223372036854775807)) then (bif (decide ((((([85, 83, 66, 67] : List UInt8) ++ y_4) ++ y_5) ++ y_3.1).length + w_Command.length ≤ 9223372036854775807)) then ((F41 n ([0] : List UInt8) (16 : Int)).bind fun y_6 => (bif (decide (((((([85, 83, 66, 67] : List UInt8) ++ y_4) ++ y_5) ++ y_3.1) ++ w_Command).length + y_6.length ≤ 9223372036854775807)) then (bif subB ((((((([85, 83, 66, 67] : List UInt8) ++ y_4) ++ y_5) ++ y_3.1) ++ w_Command) ++ y_6).length) none (some (31 : Int)) then (some (((((((([85, 83, 66, 67] : List UInt8) ++ y_4) ++ y_5) ++ y_3.1) ++ w_Command) ++ y_6).take 31), (0 : Int))) else none) else none)) else none) else none) else none)) else none)))
def F28_j3 (n : Nat) (w_Tag : Int) (w_Length : Int) (w_In : Bool) (w_Unit : Int) (w_Command : List UInt8) : Bool → Option ((List UInt8) × Int)
  | x => (bif x then (some (([] : List UInt8), (1 : Int))) else (bif w_In then (F28_j4 n w_Tag w_Length w_Unit w_Command (128 : Int)) else (F28_j4 n w_Tag w_Length w_Unit w_Command (0 : Int))))
def F28 (n : Nat) (w_Tag : Int) (w_Length : Int) (w_In : Bool) (w_Unit : Int) (w_Command : List UInt8) : Option ((List UInt8) × Int) := ((F79 n w_Tag).bind fun y_7 => (bif (!y_7) then (F28_j3 n w_Tag w_Length w_In w_Unit w_Command true) else ((F79 n w_Length).bind fun y_8 => (bif (!y_8) then (F28_j3 n w_Tag w_Length w_In w_Unit w_Command true) else ((F15 n w_Unit (0 : Int) (15 : Int)).bind fun y_9 => (bif (!y_9) then (F28_j3 n w_Tag w_Length w_In w_Unit w_Command true) else ((F15 n ((w_Command.length : Nat) : Int) (1 : Int) (16 : Int)).bind fun y_10 => (F28_j3 n w_Tag w_Length w_In w_Unit w_Command (!y_10)))))))))
theorem F28_ok (n : Nat) (w_Tag : Int) (w_Length : Int) (w_In : Bool) (w_Unit : Int) (w_Command : List UInt8) (r : (List UInt8) × Int) (h : F28 n w_Tag w_Length w_In w_Unit w_Command = some r) : PureC Try.prog 28 [(.st (.cons (.int .i64 w_Tag) (.cons (.int .i64 w_Length) (.cons (.bool w_In) (.cons (.int .i64 w_Unit) (.str w_Command))))))] (.tup (.cons (.str r.1) (.cons (.int .i64 r.2) .nil))) [] := by
  refine PureC.mkS Try.func28 rfl rfl ?_
  intro w0 fz0 hfz
  replace h : ((F79 n w_Tag).bind fun y_7 => (bif (!y_7) then (F28_j3 n w_Tag w_Length w_In w_Unit w_Command true) else ((F79 n w_Length).bind fun y_8 => (bif (!y_8) then (F28_j3 n w_Tag w_Length w_In w_Unit w_Command true) else ((F15 n w_Unit (0 : Int) (15 : Int)).bind fun y_9 => (bif (!y_9) then (F28_j3 n w_Tag w_Length w_In w_Unit w_Command true) else ((F15 n ((w_Command.length : Nat) : Int) (1 : Int) (16 : Int)).bind fun y_10 => (F28_j3 n w_Tag w_Length w_In w_Unit w_Command (!y_10))))))))) = some r := h
  refine TS.seq ?_
  have hq : (True) ∧ ((True) ∧ ((True) ∧ (True))) := ⟨trivial, ⟨trivial, ⟨trivial, trivial⟩⟩⟩
  refine TS.reg [] ?_ ?_
  · apply prop_of ?_ hq
    kernel_rfl
  refine XS.then ?_
  refine TS.seq ?_
  have hq : (True) ∧ ((True) ∧ ((True) ∧ ((True) ∧ (True)))) := ⟨trivial, ⟨trivial, ⟨trivial, ⟨trivial, trivial⟩⟩⟩⟩
  refine TS.reg [] ?_ ?_
  · apply prop_of ?_ hq
    kernel_rfl
  refine XS.then ?_
  refine TS.seq ?_
  refine TS.seq ?_
  refine TS.cut (D := Bool) (fun d => match d with | x => (mkTs 59 [(1, (.ptr 0 [])), (4, (.int .i64 ((w_Command.length : Nat) : Int))), (31, (.bool x))], [(.box 52 (.st (.cons (.int .i64 w_Tag) (.cons (.int .i64 w_Length) (.cons (.bool w_In) (.cons (.int .i64 w_Unit) (.str w_Command)))))))])) (fun d => F28_j3 n w_Tag w_Length w_In w_Unit w_Command d = some r) ?_ ?_
  · rintro x h
    replace h : (bif x then (some (([] : List UInt8), (1 : Int))) else (bif w_In then (F28_j4 n w_Tag w_Length w_Unit w_Command (128 : Int)) else (F28_j4 n w_Tag w_Length w_Unit w_Command (0 : Int)))) = some r := h
    refine XS.then ?_
    rcases bif_some h with ⟨c1, h⟩ | ⟨c2, h⟩
    · refine TS.cond x ?_ (fun hcz => ?_) (fun hcz => by rw [c1] at hcz; cases hcz)
      · kernel_rfl
      refine TS.seq ?_
      have hq : (True) ∧ ((True) ∧ (True)) := ⟨trivial, ⟨trivial, trivial⟩⟩
      refine TS.reg [] ?_ ?_
      · apply prop_of ?_ hq
        kernel_rfl
      refine XS.then ?_
      refine TS.ret ?_
      refine XS.passR ?_
      obtain rfl : (([] : List UInt8), (1 : Int)) = r := Option.some.inj h
      exact XS.fin [] ((True) ∧ ((True) ∧ (True))) (by kernel_rfl) ⟨trivial, ⟨trivial, trivial⟩⟩
    · refine TS.cond x ?_ (fun hcz => by rw [c2] at hcz; cases hcz) (fun hcz => ?_)
      · kernel_rfl
      refine TS.skip ?_
      refine XS.then ?_
      refine TS.seq ?_
      have hq : (True) ∧ (True) := ⟨trivial, trivial⟩
      refine TS.reg [] ?_ ?_
      · apply prop_of ?_ hq
        kernel_rfl
      refine XS.then ?_
      refine TS.seq ?_
      refine TS.seq ?_
      have hq : (True) ∧ ((True) ∧ (True)) := ⟨trivial, ⟨trivial, trivial⟩⟩
      refine TS.reg [] ?_ ?_
      · apply prop_of ?_ hq
        kernel_rfl
      refine XS.then ?_
      refine TS.cut (D := Int) (fun d => match d with | way => (mkTs 59 [(1, (.ptr 0 [])), (4, (.int .i64 ((w_Command.length : Nat) : Int))), (5, (.int .i64 way))], [(.box 52 (.st (.cons (.int .i64 w_Tag) (.cons (.int .i64 w_Length) (.cons (.bool w_In) (.cons (.int .i64 w_Unit) (.str w_Command)))))))])) (fun d => F28_j4 n w_Tag w_Length w_Unit w_Command d = some r) ?_ ?_
      · rintro way h
        replace h : ((F63 n [way, w_Unit, ((w_Command.length : Nat) : Int)]).bind fun y_3 => ((F80 n w_Tag).bind fun y_4 => (bif (decide (([85, 83, 66, 67] : List UInt8).length + y_4.length ≤ 9223372036854775807)) then ((F80 n w_Length).bind fun y_5 => (bif (decide ((([85, 83, 66, 67] : List UInt8) ++ y_4).length + y_5.length ≤ 9223372036854775807)) then (bif (decide (((([85, 83, 66, 67] : List UInt8) ++ y_4) ++ y_5).length + y_3.1.length ≤ 9223372036854775807)) then (bif (decide ((((([85, 83, 66, 67] : List UInt8) ++ y_4) ++ y_5) ++ y_3.1).length + w_Command.length ≤ 9223372036854775807)) then ((F41 n ([0] : List UInt8) (16 : Int)).bind fun y_6 => (bif (decide (((((([85, 83, 66, 67] : List UInt8) ++ y_4) ++ y_5) ++ y_3.1) ++ w_Command).length + y_6.length ≤ 9223372036854775807)) then (bif subB ((((((([85, 83, 66, 67] : List UInt8) ++ y_4) ++ y_5) ++ y_3.1) ++ w_Command) ++ y_6).length) none (some (31 : Int)) then (some (((((((([85, 83, 66, 67] : List UInt8) ++ y_4) ++ y_5) ++ y_3.1) ++ w_Command) ++ y_6).take 31), (0 : Int))) else none) else none)) else none) else none) else none)) else none))) = some r := h
        refine XS.then ?_
        refine TS.seq ?_
        obtain ⟨y_3, hx3, h⟩ := bind_some' h
        have hq : (True) ∧ ((True) ∧ ((True) ∧ ((True) ∧ (((0 < 3 ∧ True) ∧ ((1 < 3 ∧ True) ∧ ((2 < 3 ∧ True) ∧ (True)))) ∧ ((((True) ∧ (True)) ∧ PureC Try.prog 63 [(.sl (.int .i64) [way, w_Unit, ((w_Command.length : Nat) : Int)])] (.tup (.cons (.str y_3.1) (.cons (.bool y_3.2) .nil))) []) ∧ ((True) ∧ ((True) ∧ ((True) ∧ ((True) ∧ ((True) ∧ (True))))))))))) := ⟨trivial, ⟨trivial, ⟨trivial, ⟨trivial, ⟨⟨⟨by decide, trivial⟩, ⟨⟨by decide, trivial⟩, ⟨⟨by decide, trivial⟩, trivial⟩⟩⟩, ⟨⟨⟨trivial, trivial⟩, F63_ok n [way, w_Unit, ((w_Command.length : Nat) : Int)] y_3 hx3⟩, ⟨trivial, ⟨trivial, ⟨trivial, ⟨trivial, ⟨trivial, trivial⟩⟩⟩⟩⟩⟩⟩⟩⟩⟩⟩
        refine TS.reg [.none, .none, .none, .none, .none, (.call (.tup (.cons (.str y_3.1) (.cons (.bool y_3.2) .nil))) [])] ?_ ?_
        · apply prop_of ?_ hq
          kernel_rfl
        refine XS.then ?_
        refine TS.seq ?_
        obtain ⟨y_4, hx4, h⟩ := bind_some' h
        obtain ⟨t5, h⟩ := test_some h
        obtain ⟨y_5, hx6, h⟩ := bind_some' h
        obtain ⟨t7, h⟩ := test_some h
        obtain ⟨t8, h⟩ := test_some h
        obtain ⟨t9, h⟩ := test_some h
        obtain ⟨y_6, hx10, h⟩ := bind_some' h
        obtain ⟨t11, h⟩ := test_some h
        obtain ⟨t12, h⟩ := test_some h
        have hq : ((True) ∧ ((True) ∧ ((PureC Try.prog 80 [(.int .i64 w_Tag)] (.str y_4) []) ∧ ((([85, 83, 66, 67] : List UInt8).length + y_4.length ≤ 9223372036854775807) ∧ ((True) ∧ ((True) ∧ ((PureC Try.prog 80 [(.int .i64 w_Length)] (.str y_5) []) ∧ (((([85, 83, 66, 67] : List UInt8) ++ y_4).length + y_5.length ≤ 9223372036854775807) ∧ ((True) ∧ ((((([85, 83, 66, 67] : List UInt8) ++ y_4) ++ y_5).length + y_3.1.length ≤ 9223372036854775807) ∧ ((True) ∧ ((True) ∧ (((((([85, 83, 66, 67] : List UInt8) ++ y_4) ++ y_5) ++ y_3.1).length + w_Command.length ≤ 9223372036854775807) ∧ ((PureC Try.prog 41 [(.str ([0] : List UInt8)), (.int .i64 (16 : Int))] (.str y_6) []) ∧ ((((((([85, 83, 66, 67] : List UInt8) ++ y_4) ++ y_5) ++ y_3.1) ++ w_Command).length + y_6.length ≤ 9223372036854775807) ∧ ((subC (((((([85, 83, 66, 67] : List UInt8) ++ y_4) ++ y_5) ++ y_3.1) ++ w_Command) ++ y_6).length none (some (31 : Int))) ∧ (True))))))))))))))))) ∧ ((True) ∧ ((True) ∧ (True))) := ⟨⟨trivial, ⟨trivial, ⟨F80_ok n w_Tag y_4 hx4, ⟨of_decide_eq_true t5, ⟨trivial, ⟨trivial, ⟨F80_ok n w_Length y_5 hx6, ⟨of_decide_eq_true t7, ⟨trivial, ⟨of_decide_eq_true t8, ⟨trivial, ⟨trivial, ⟨of_decide_eq_true t9, ⟨F41_ok n ([0] : List UInt8) (16 : Int) y_6 hx10, ⟨of_decide_eq_true t11, ⟨subB_ok t12, trivial⟩⟩⟩⟩⟩⟩⟩⟩⟩⟩⟩⟩⟩⟩⟩⟩, ⟨trivial, ⟨trivial, trivial⟩⟩⟩
        refine TS.draw 16 [] [.none, .none, (.call (.str y_4) []), .none, .none, .none, (.call (.str y_5) []), .none, .none, .none, .none, .none, .none, (.call (.str y_6) [])] (by kernel_rfl) ?_ ?_
        · apply prop_of ?_ hq
          kernel_rfl
        refine XS.then ?_
        refine TS.ret ?_
        obtain rfl : (((((((([85, 83, 66, 67] : List UInt8) ++ y_4) ++ y_5) ++ y_3.1) ++ w_Command) ++ y_6).take 31), (0 : Int)) = r := Option.some.inj h
        exact XS.fin [] ((True) ∧ ((True) ∧ (True))) (by kernel_rfl) ⟨trivial, ⟨trivial, trivial⟩⟩
      · rcases bif_some h with ⟨c13, h⟩ | ⟨c14, h⟩
        · refine TS.cond w_In ?_ (fun hcz => ?_) (fun hcz => by rw [c13] at hcz; cases hcz)
          · kernel_rfl
          have hq : (True) ∧ (True) := ⟨trivial, trivial⟩
          refine TS.reg [] ?_ ?_
          · apply prop_of ?_ hq
            kernel_rfl
          refine XS.reAny [0] (mkMask 59 [1, 4, 5]) (128 : Int) h ?_
          kernel_rfl
        · refine TS.cond w_In ?_ (fun hcz => by rw [c14] at hcz; cases hcz) (fun hcz => ?_)
          · kernel_rfl
          refine TS.skip ?_
          refine XS.reAny [0] (mkMask 59 [1, 4, 5]) (0 : Int) h ?_
          kernel_rfl
  · obtain ⟨y_7, hx15, h⟩ := bind_some' h
    rcases bif_some h with ⟨c16, h⟩ | ⟨c17, h⟩
    · have hq : (True) ∧ ((True) ∧ ((PureC Try.prog 79 [(.int .i64 w_Tag)] (.bool y_7) []) ∧ ((True) ∧ (((True) ∧ (!y_7) = true) ∧ ((True) ∧ ((True) ∧ ((True) ∧ ((True) ∧ ((True) ∧ (True)))))))))) := ⟨trivial, ⟨trivial, ⟨F79_ok n w_Tag y_7 hx15, ⟨trivial, ⟨⟨trivial, c16⟩, ⟨trivial, ⟨trivial, ⟨trivial, ⟨trivial, ⟨trivial, trivial⟩⟩⟩⟩⟩⟩⟩⟩⟩⟩
      refine TS.reg [.none, .none, (.call (.bool y_7) []), .none, .dec true] ?_ ?_
      · apply prop_of ?_ hq
        kernel_rfl
      refine XS.reAny [0] (mkMask 59 [1, 4, 31]) true h ?_
      kernel_rfl
    · obtain ⟨y_8, hx18, h⟩ := bind_some' h
      rcases bif_some h with ⟨c19, h⟩ | ⟨c20, h⟩
      · have hq : (True) ∧ ((True) ∧ ((PureC Try.prog 79 [(.int .i64 w_Tag)] (.bool y_7) []) ∧ ((True) ∧ (((True) ∧ (!y_7) = false) ∧ ((True) ∧ ((True) ∧ ((PureC Try.prog 79 [(.int .i64 w_Length)] (.bool y_8) []) ∧ ((True) ∧ ((True) ∧ (((True) ∧ (!y_8) = true) ∧ ((True) ∧ ((True) ∧ ((True) ∧ (True)))))))))))))) := ⟨trivial, ⟨trivial, ⟨F79_ok n w_Tag y_7 hx15, ⟨trivial, ⟨⟨trivial, c17⟩, ⟨trivial, ⟨trivial, ⟨F79_ok n w_Length y_8 hx18, ⟨trivial, ⟨trivial, ⟨⟨trivial, c19⟩, ⟨trivial, ⟨trivial, ⟨trivial, trivial⟩⟩⟩⟩⟩⟩⟩⟩⟩⟩⟩⟩⟩⟩
        refine TS.reg [.none, .none, (.call (.bool y_7) []), .none, .dec false, .none, .none, (.call (.bool y_8) []), .none, .none, .dec true] ?_ ?_
        · apply prop_of ?_ hq
          kernel_rfl
        refine XS.reAny [0] (mkMask 59 [1, 4, 31]) true h ?_
        kernel_rfl
      · obtain ⟨y_9, hx21, h⟩ := bind_some' h
        rcases bif_some h with ⟨c22, h⟩ | ⟨c23, h⟩
        · have hq : (True) ∧ ((True) ∧ ((PureC Try.prog 79 [(.int .i64 w_Tag)] (.bool y_7) []) ∧ ((True) ∧ (((True) ∧ (!y_7) = false) ∧ ((True) ∧ ((True) ∧ ((PureC Try.prog 79 [(.int .i64 w_Length)] (.bool y_8) []) ∧ ((True) ∧ ((True) ∧ (((True) ∧ (!y_8) = false) ∧ ((True) ∧ ((True) ∧ ((PureC Try.prog 15 [(.int .i64 w_Unit), (.int .i64 (0 : Int)), (.int .i64 (15 : Int))] (.bool y_9) []) ∧ ((True) ∧ ((True) ∧ (((True) ∧ (!y_9) = true) ∧ ((True) ∧ (True)))))))))))))))))) := ⟨trivial, ⟨trivial, ⟨F79_ok n w_Tag y_7 hx15, ⟨trivial, ⟨⟨trivial, c17⟩, ⟨trivial, ⟨trivial, ⟨F79_ok n w_Length y_8 hx18, ⟨trivial, ⟨trivial, ⟨⟨trivial, c20⟩, ⟨trivial, ⟨trivial, ⟨F15_ok n w_Unit (0 : Int) (15 : Int) y_9 hx21, ⟨trivial, ⟨trivial, ⟨⟨trivial, c22⟩, ⟨trivial, trivial⟩⟩⟩⟩⟩⟩⟩⟩⟩⟩⟩⟩⟩⟩⟩⟩⟩⟩
          refine TS.reg [.none, .none, (.call (.bool y_7) []), .none, .dec false, .none, .none, (.call (.bool y_8) []), .none, .none, .dec false, .none, .none, (.call (.bool y_9) []), .none, .none, .dec true] ?_ ?_
          · apply prop_of ?_ hq
            kernel_rfl
          refine XS.reAny [0] (mkMask 59 [1, 4, 31]) true h ?_
          kernel_rfl
        · obtain ⟨y_10, hx24, h⟩ := bind_some' h
          have hq : (True) ∧ ((True) ∧ ((PureC Try.prog 79 [(.int .i64 w_Tag)] (.bool y_7) []) ∧ ((True) ∧ (((True) ∧ (!y_7) = false) ∧ ((True) ∧ ((True) ∧ ((PureC Try.prog 79 [(.int .i64 w_Length)] (.bool y_8) []) ∧ ((True) ∧ ((True) ∧ (((True) ∧ (!y_8) = false) ∧ ((True) ∧ ((True) ∧ ((PureC Try.prog 15 [(.int .i64 w_Unit), (.int .i64 (0 : Int)), (.int .i64 (15 : Int))] (.bool y_9) []) ∧ ((True) ∧ ((True) ∧ (((True) ∧ (!y_9) = false) ∧ ((True) ∧ ((PureC Try.prog 15 [(.int .i64 ((w_Command.length : Nat) : Int)), (.int .i64 (1 : Int)), (.int .i64 (16 : Int))] (.bool y_10) []) ∧ ((True) ∧ ((True) ∧ (True))))))))))))))))))))) := ⟨trivial, ⟨trivial, ⟨F79_ok n w_Tag y_7 hx15, ⟨trivial, ⟨⟨trivial, c17⟩, ⟨trivial, ⟨trivial, ⟨F79_ok n w_Length y_8 hx18, ⟨trivial, ⟨trivial, ⟨⟨trivial, c20⟩, ⟨trivial, ⟨trivial, ⟨F15_ok n w_Unit (0 : Int) (15 : Int) y_9 hx21, ⟨trivial, ⟨trivial, ⟨⟨trivial, c23⟩, ⟨trivial, ⟨F15_ok n ((w_Command.length : Nat) : Int) (1 : Int) (16 : Int) y_10 hx24, ⟨trivial, ⟨trivial, trivial⟩⟩⟩⟩⟩⟩⟩⟩⟩⟩⟩⟩⟩⟩⟩⟩⟩⟩⟩⟩⟩
          refine TS.reg [.none, .none, (.call (.bool y_7) []), .none, .dec false, .none, .none, (.call (.bool y_8) []), .none, .none, .dec false, .none, .none, (.call (.bool y_9) []), .none, .none, .dec false, .none, (.call (.bool y_10) [])] ?_ ?_
          · apply prop_of ?_ hq
            kernel_rfl
          refine XS.reAny [0] (mkMask 59 [1, 4, 31]) (!y_10) h ?_
          kernel_rfl

/-! plugtree/bulk.longAt -/
def F81 (n : Nat) (s : List UInt8) (i : Int) : Option Int := (bif inb i s.length then (bif inb (IntKind.wrap .i64 (i + (1 : Int))) s.length then (bif inb (IntKind.wrap .i64 (i + (2 : Int))) s.length then (bif inb (IntKind.wrap .i64 (i + (3 : Int))) s.length then (some (bitsI .or .i64 (bitsI .or .i64 (bitsI .or .i64 (IntKind.wrap .i64 ((((s.getD i.toNat 0).toNat : Nat) : Int))) (shlI .i64 (IntKind.wrap .i64 ((((s.getD ((IntKind.wrap .i64 (i + (1 : Int))).toNat) 0).toNat : Nat) : Int))) (8 : Int))) (shlI .i64 (IntKind.wrap .i64 ((((s.getD ((IntKind.wrap .i64 (i + (2 : Int))).toNat) 0).toNat : Nat) : Int))) (16 : Int))) (shlI .i64 (IntKind.wrap .i64 ((((s.getD ((IntKind.wrap .i64 (i + (3 : Int))).toNat) 0).toNat : Nat) : Int))) (24 : Int)))) else none) else none) else none) else none)
theorem F81_ok (n : Nat) (s : List UInt8) (i : Int) (r : Int) (h : F81 n s i = some r) : PureC Try.prog 81 [(.str s), (.int .i64 i)] (.int .i64 r) [] := by
  refine PureC.mkS Try.func81 rfl rfl ?_
  intro w0 fz0 hfz
  replace h : (bif inb i s.length then (bif inb (IntKind.wrap .i64 (i + (1 : Int))) s.length then (bif inb (IntKind.wrap .i64 (i + (2 : Int))) s.length then (bif inb (IntKind.wrap .i64 (i + (3 : Int))) s.length then (some (bitsI .or .i64 (bitsI .or .i64 (bitsI .or .i64 (IntKind.wrap .i64 ((((s.getD i.toNat 0).toNat : Nat) : Int))) (shlI .i64 (IntKind.wrap .i64 ((((s.getD ((IntKind.wrap .i64 (i + (1 : Int))).toNat) 0).toNat : Nat) : Int))) (8 : Int))) (shlI .i64 (IntKind.wrap .i64 ((((s.getD ((IntKind.wrap .i64 (i + (2 : Int))).toNat) 0).toNat : Nat) : Int))) (16 : Int))) (shlI .i64 (IntKind.wrap .i64 ((((s.getD ((IntKind.wrap .i64 (i + (3 : Int))).toNat) 0).toNat : Nat) : Int))) (24 : Int)))) else none) else none) else none) else none) = some r := h
  refine TS.seq ?_
  have hq : (True) ∧ (True) := ⟨trivial, trivial⟩
  refine TS.reg [] ?_ ?_
  · apply prop_of ?_ hq
    kernel_rfl
  refine XS.then ?_
  refine TS.seq ?_
  obtain ⟨t1, h⟩ := test_some h
  obtain ⟨t2, h⟩ := test_some h
  obtain ⟨t3, h⟩ := test_some h
  obtain ⟨t4, h⟩ := test_some h
  have hq : ((True) ∧ ((True) ∧ ((inR i s.length) ∧ ((True) ∧ ((True) ∧ ((True) ∧ ((True) ∧ ((inR (IntKind.wrap .i64 (i + (1 : Int))) s.length) ∧ ((True) ∧ ((0 ≤ (8 : Int)) ∧ ((True) ∧ ((True) ∧ ((True) ∧ ((True) ∧ ((inR (IntKind.wrap .i64 (i + (2 : Int))) s.length) ∧ ((True) ∧ ((0 ≤ (16 : Int)) ∧ ((True) ∧ ((True) ∧ ((True) ∧ ((True) ∧ ((inR (IntKind.wrap .i64 (i + (3 : Int))) s.length) ∧ ((True) ∧ ((0 ≤ (24 : Int)) ∧ ((True) ∧ (True)))))))))))))))))))))))))) ∧ ((True) ∧ (True)) := ⟨⟨trivial, ⟨trivial, ⟨inb_ok t1, ⟨trivial, ⟨trivial, ⟨trivial, ⟨trivial, ⟨inb_ok t2, ⟨trivial, ⟨by decide, ⟨trivial, ⟨trivial, ⟨trivial, ⟨trivial, ⟨inb_ok t3, ⟨trivial, ⟨by decide, ⟨trivial, ⟨trivial, ⟨trivial, ⟨trivial, ⟨inb_ok t4, ⟨trivial, ⟨by decide, ⟨trivial, trivial⟩⟩⟩⟩⟩⟩⟩⟩⟩⟩⟩⟩⟩⟩⟩⟩⟩⟩⟩⟩⟩⟩⟩⟩⟩, ⟨trivial, trivial⟩⟩
  refine TS.draw 25 [] [] (by kernel_rfl) ?_ ?_
  · apply prop_of ?_ hq
    kernel_rfl
  refine XS.then ?_
  refine TS.ret ?_
  obtain rfl : (bitsI .or .i64 (bitsI .or .i64 (bitsI .or .i64 (IntKind.wrap .i64 ((((s.getD i.toNat 0).toNat : Nat) : Int))) (shlI .i64 (IntKind.wrap .i64 ((((s.getD ((IntKind.wrap .i64 (i + (1 : Int))).toNat) 0).toNat : Nat) : Int))) (8 : Int))) (shlI .i64 (IntKind.wrap .i64 ((((s.getD ((IntKind.wrap .i64 (i + (2 : Int))).toNat) 0).toNat : Nat) : Int))) (16 : Int))) (shlI .i64 (IntKind.wrap .i64 ((((s.getD ((IntKind.wrap .i64 (i + (3 : Int))).toNat) 0).toNat : Nat) : Int))) (24 : Int))) = r := Option.some.inj h
  exact XS.fin [] ((True) ∧ (True)) (by kernel_rfl) ⟨trivial, trivial⟩

/-! plugtree/bulk.ReadWrap -/
def F29 (n : Nat) (s : List UInt8) : Option (Int × Int × Bool × Int × (List UInt8) × Int) := (bif (decide (((s.length : Nat) : Int) < (31 : Int))) then (some ((0 : Int), (0 : Int), false, (0 : Int), ([] : List UInt8), (3 : Int))) else ((F81 n s (4 : Int)).bind fun y_7 => ((F81 n s (8 : Int)).bind fun y_8 => (bif inb (12 : Int) s.length then (bif inb (13 : Int) s.length then (bif inb (14 : Int) s.length then (bif subB s.length (some (15 : Int)) (some (IntKind.wrap .i64 ((15 : Int) + (if (16 : Int) < (IntKind.wrap .i64 ((((s.getD 14 0).toNat : Nat) : Int))) then (16 : Int) else (IntKind.wrap .i64 ((((s.getD 14 0).toNat : Nat) : Int))))))) then ((F27 n y_7 y_8 ((((s.getD 12 0).toNat : Nat) : Int) == (128 : Int)) (IntKind.wrap .i64 ((((s.getD 13 0).toNat : Nat) : Int))) ((s.take (IntKind.wrap .i64 ((15 : Int) + (if (16 : Int) < (IntKind.wrap .i64 ((((s.getD 14 0).toNat : Nat) : Int))) then (16 : Int) else (IntKind.wrap .i64 ((((s.getD 14 0).toNat : Nat) : Int)))))).toNat).drop 15)).bind fun y_9 => (bif (y_9.2 != (0 : Int)) then (some ((0 : Int), (0 : Int), false, (0 : Int), ([] : List UInt8), (4 : Int))) else (bif (!(y_9.1 == s)) then (some ((0 : Int), (0 : Int), false, (0 : Int), ([] : List UInt8), (4 : Int))) else (some (y_7, y_8, ((((s.getD 12 0).toNat : Nat) : Int) == (128 : Int)), (IntKind.wrap .i64 ((((s.getD 13 0).toNat : Nat) : Int))), ((s.take (IntKind.wrap .i64 ((15 : Int) + (if (16 : Int) < (IntKind.wrap .i64 ((((s.getD 14 0).toNat : Nat) : Int))) then (16 : Int) else (IntKind.wrap .i64 ((((s.getD 14 0).toNat : Nat) : Int)))))).toNat).drop 15), (0 : Int)))))) else none) else none) else none) else none))))
theorem F29_ok (n : Nat) (s : List UInt8) (r : Int × Int × Bool × Int × (List UInt8) × Int) (h : F29 n s = some r) : PureC Try.prog 29 [(.str s)] (.tup (.cons (.st (.cons (.int .i64 r.1) (.cons (.int .i64 r.2.1) (.cons (.bool r.2.2.1) (.cons (.int .i64 r.2.2.2.1) (.str r.2.2.2.2.1)))))) (.cons (.int .i64 r.2.2.2.2.2) .nil))) [] := by
  refine PureC.mkS Try.func29 rfl rfl ?_
  intro w0 fz0 hfz
  replace h : (bif (decide (((s.length : Nat) : Int) < (31 : Int))) then (some ((0 : Int), (0 : Int), false, (0 : Int), ([] : List UInt8), (3 : Int))) else ((F81 n s (4 : Int)).bind fun y_7 => ((F81 n s (8 : Int)).bind fun y_8 => (bif inb (12 : Int) s.length then (bif inb (13 : Int) s.length then (bif inb (14 : Int) s.length then (bif subB s.length (some (15 : Int)) (some (IntKind.wrap .i64 ((15 : Int) + (if (16 : Int) < (IntKind.wrap .i64 ((((s.getD 14 0).toNat : Nat) : Int))) then (16 : Int) else (IntKind.wrap .i64 ((((s.getD 14 0).toNat : Nat) : Int))))))) then ((F27 n y_7 y_8 ((((s.getD 12 0).toNat : Nat) : Int) == (128 : Int)) (IntKind.wrap .i64 ((((s.getD 13 0).toNat : Nat) : Int))) ((s.take (IntKind.wrap .i64 ((15 : Int) + (if (16 : Int) < (IntKind.wrap .i64 ((((s.getD 14 0).toNat : Nat) : Int))) then (16 : Int) else (IntKind.wrap .i64 ((((s.getD 14 0).toNat : Nat) : Int)))))).toNat).drop 15)).bind fun y_9 => (bif (y_9.2 != (0 : Int)) then (some ((0 : Int), (0 : Int), false, (0 : Int), ([] : List UInt8), (4 : Int))) else (bif (!(y_9.1 == s)) then (some ((0 : Int), (0 : Int), false, (0 : Int), ([] : List UInt8), (4 : Int))) else (some (y_7, y_8, ((((s.getD 12 0).toNat : Nat) : Int) == (128 : Int)), (IntKind.wrap .i64 ((((s.getD 13 0).toNat : Nat) : Int))), ((s.take (IntKind.wrap .i64 ((15 : Int) + (if (16 : Int) < (IntKind.wrap .i64 ((((s.getD 14 0).toNat : Nat) : Int))) then (16 : Int) else (IntKind.wrap .i64 ((((s.getD 14 0).toNat : Nat) : Int)))))).toNat).drop 15), (0 : Int)))))) else none) else none) else none) else none)))) = some r := h
  refine TS.seq ?_
  have hq : (True) ∧ ((True) ∧ (True)) := ⟨trivial, ⟨trivial, trivial⟩⟩
  refine TS.reg [] ?_ ?_
  · apply prop_of ?_ hq
    kernel_rfl
  refine XS.then ?_
  refine TS.seq ?_
  refine TS.seq ?_
  have hq : (True) ∧ ((True) ∧ ((True) ∧ (True))) := ⟨trivial, ⟨trivial, ⟨trivial, trivial⟩⟩⟩
  refine TS.reg [] ?_ ?_
  · apply prop_of ?_ hq
    kernel_rfl
  refine XS.then ?_
  rcases bif_some h with ⟨c1, h⟩ | ⟨c2, h⟩
  · refine TS.cond (decide (((s.length : Nat) : Int) < (31 : Int))) ?_ (fun hcz => ?_) (fun hcz => by rw [c1] at hcz; cases hcz)
    · kernel_rfl
    refine TS.seq ?_
    have hq : (True) ∧ ((True) ∧ ((True) ∧ (True))) := ⟨trivial, ⟨trivial, ⟨trivial, trivial⟩⟩⟩
    refine TS.reg [] ?_ ?_
    · apply prop_of ?_ hq
      kernel_rfl
    refine XS.then ?_
    refine TS.ret ?_
    refine XS.passR ?_
    obtain rfl : ((0 : Int), (0 : Int), false, (0 : Int), ([] : List UInt8), (3 : Int)) = r := Option.some.inj h
    exact XS.fin [] ((True) ∧ ((True) ∧ (True))) (by kernel_rfl) ⟨trivial, ⟨trivial, trivial⟩⟩
  · refine TS.cond (decide (((s.length : Nat) : Int) < (31 : Int))) ?_ (fun hcz => by rw [c2] at hcz; cases hcz) (fun hcz => ?_)
    · kernel_rfl
    refine TS.skip ?_
    refine XS.then ?_
    refine TS.seq ?_
    obtain ⟨y_7, hx3, h⟩ := bind_some' h
    obtain ⟨y_8, hx4, h⟩ := bind_some' h
    obtain ⟨t5, h⟩ := test_some h
    obtain ⟨t6, h⟩ := test_some h
    obtain ⟨t7, h⟩ := test_some h
    obtain ⟨t8, h⟩ := test_some h
    have hq : ((True) ∧ ((PureC Try.prog 81 [(.str s), (.int .i64 (4 : Int))] (.int .i64 y_7) []) ∧ ((True) ∧ ((PureC Try.prog 81 [(.str s), (.int .i64 (8 : Int))] (.int .i64 y_8) []) ∧ ((True) ∧ ((inR (12 : Int) s.length) ∧ ((True) ∧ ((True) ∧ ((inR (13 : Int) s.length) ∧ ((True) ∧ ((True) ∧ ((True) ∧ ((inR (14 : Int) s.length) ∧ ((True) ∧ ((True) ∧ ((True) ∧ ((subC s.length (some (15 : Int)) (some (IntKind.wrap .i64 ((15 : Int) + (if (16 : Int) < (IntKind.wrap .i64 ((((s.getD 14 0).toNat : Nat) : Int))) then (16 : Int) else (IntKind.wrap .i64 ((((s.getD 14 0).toNat : Nat) : Int)))))))) ∧ (((True) ∧ ((True) ∧ ((True) ∧ ((True) ∧ ((True) ∧ (True)))))) ∧ ((True) ∧ (True)))))))))))))))))))) ∧ ((True) ∧ (True)) := ⟨⟨trivial, ⟨F81_ok n s (4 : Int) y_7 hx3, ⟨trivial, ⟨F81_ok n s (8 : Int) y_8 hx4, ⟨trivial, ⟨inb_ok t5, ⟨trivial, ⟨trivial, ⟨inb_ok t6, ⟨trivial, ⟨trivial, ⟨trivial, ⟨inb_ok t7, ⟨trivial, ⟨trivial, ⟨trivial, ⟨subB_ok t8, ⟨⟨trivial, ⟨trivial, ⟨trivial, ⟨trivial, ⟨trivial, trivial⟩⟩⟩⟩⟩, ⟨trivial, trivial⟩⟩⟩⟩⟩⟩⟩⟩⟩⟩⟩⟩⟩⟩⟩⟩⟩⟩⟩, ⟨trivial, trivial⟩⟩
    refine TS.draw 19 [] [.none, (.call (.int .i64 y_7) []), .none, (.call (.int .i64 y_8) [])] (by kernel_rfl) ?_ ?_
    · apply prop_of ?_ hq
      kernel_rfl
    refine XS.then ?_
    refine TS.seq ?_
    refine TS.seq ?_
    obtain ⟨y_9, hx9, h⟩ := bind_some' h
    have hq : (True) ∧ ((PureC Try.prog 27 [(.st (.cons (.int .i64 y_7) (.cons (.int .i64 y_8) (.cons (.bool ((((s.getD 12 0).toNat : Nat) : Int) == (128 : Int))) (.cons (.int .i64 (IntKind.wrap .i64 ((((s.getD 13 0).toNat : Nat) : Int)))) (.str ((s.take (IntKind.wrap .i64 ((15 : Int) + (if (16 : Int) < (IntKind.wrap .i64 ((((s.getD 14 0).toNat : Nat) : Int))) then (16 : Int) else (IntKind.wrap .i64 ((((s.getD 14 0).toNat : Nat) : Int)))))).toNat).drop 15)))))))] (.tup (.cons (.str y_9.1) (.cons (.int .i64 y_9.2) .nil))) []) ∧ ((True) ∧ ((True) ∧ ((True) ∧ ((True) ∧ ((True) ∧ (True))))))) := ⟨trivial, ⟨F27_ok n y_7 y_8 ((((s.getD 12 0).toNat : Nat) : Int) == (128 : Int)) (IntKind.wrap .i64 ((((s.getD 13 0).toNat : Nat) : Int))) ((s.take (IntKind.wrap .i64 ((15 : Int) + (if (16 : Int) < (IntKind.wrap .i64 ((((s.getD 14 0).toNat : Nat) : Int))) then (16 : Int) else (IntKind.wrap .i64 ((((s.getD 14 0).toNat : Nat) : Int)))))).toNat).drop 15) y_9 hx9, ⟨trivial, ⟨trivial, ⟨trivial, ⟨trivial, ⟨trivial, trivial⟩⟩⟩⟩⟩⟩⟩
    refine TS.reg [.none, (.call (.tup (.cons (.str y_9.1) (.cons (.int .i64 y_9.2) .nil))) [])] ?_ ?_
    · apply prop_of ?_ hq
      kernel_rfl
    refine XS.then ?_
    refine TS.seq ?_
    rcases bif_some h with ⟨c10, h⟩ | ⟨c11, h⟩
    · have hq : (True) ∧ ((True) ∧ (((True) ∧ (y_9.2 != (0 : Int)) = true) ∧ ((True) ∧ (True)))) := ⟨trivial, ⟨trivial, ⟨⟨trivial, c10⟩, ⟨trivial, trivial⟩⟩⟩⟩
      refine TS.reg [.none, .none, .dec true] ?_ ?_
      · apply prop_of ?_ hq
        kernel_rfl
      refine XS.then ?_
      refine TS.yes ?_ ?_
      · kernel_rfl
      refine TS.seq ?_
      have hq : (True) ∧ ((True) ∧ ((True) ∧ (True))) := ⟨trivial, ⟨trivial, ⟨trivial, trivial⟩⟩⟩
      refine TS.reg [] ?_ ?_
      · apply prop_of ?_ hq
        kernel_rfl
      refine XS.then ?_
      refine TS.ret ?_
      refine XS.passR ?_
      obtain rfl : ((0 : Int), (0 : Int), false, (0 : Int), ([] : List UInt8), (4 : Int)) = r := Option.some.inj h
      exact XS.fin [] ((True) ∧ ((True) ∧ (True))) (by kernel_rfl) ⟨trivial, ⟨trivial, trivial⟩⟩
    · have hq : (True) ∧ ((True) ∧ (((True) ∧ (y_9.2 != (0 : Int)) = false) ∧ ((True) ∧ ((True) ∧ ((True) ∧ ((True) ∧ (True))))))) := ⟨trivial, ⟨trivial, ⟨⟨trivial, c11⟩, ⟨trivial, ⟨trivial, ⟨trivial, ⟨trivial, trivial⟩⟩⟩⟩⟩⟩⟩
      refine TS.reg [.none, .none, .dec false] ?_ ?_
      · apply prop_of ?_ hq
        kernel_rfl
      refine XS.then ?_
      rcases bif_some h with ⟨c12, h⟩ | ⟨c13, h⟩
      · refine TS.cond (!(y_9.1 == s)) ?_ (fun hcz => ?_) (fun hcz => by rw [c12] at hcz; cases hcz)
        · kernel_rfl
        refine TS.seq ?_
        have hq : (True) ∧ ((True) ∧ ((True) ∧ (True))) := ⟨trivial, ⟨trivial, ⟨trivial, trivial⟩⟩⟩
        refine TS.reg [] ?_ ?_
        · apply prop_of ?_ hq
          kernel_rfl
        refine XS.then ?_
        refine TS.ret ?_
        refine XS.passR ?_
        obtain rfl : ((0 : Int), (0 : Int), false, (0 : Int), ([] : List UInt8), (4 : Int)) = r := Option.some.inj h
        exact XS.fin [] ((True) ∧ ((True) ∧ (True))) (by kernel_rfl) ⟨trivial, ⟨trivial, trivial⟩⟩
      · refine TS.cond (!(y_9.1 == s)) ?_ (fun hcz => by rw [c13] at hcz; cases hcz) (fun hcz => ?_)
        · kernel_rfl
        refine TS.skip ?_
        refine XS.then ?_
        refine TS.seq ?_
        have hq : (True) ∧ ((True) ∧ ((True) ∧ (True))) := ⟨trivial, ⟨trivial, ⟨trivial, trivial⟩⟩⟩
        refine TS.reg [] ?_ ?_
        · apply prop_of ?_ hq
          kernel_rfl
        refine XS.then ?_
        refine TS.ret ?_
        obtain rfl : (y_7, y_8, ((((s.getD 12 0).toNat : Nat) : Int) == (128 : Int)), (IntKind.wrap .i64 ((((s.getD 13 0).toNat : Nat) : Int))), ((s.take (IntKind.wrap .i64 ((15 : Int) + (if (16 : Int) < (IntKind.wrap .i64 ((((s.getD 14 0).toNat : Nat) : Int))) then (16 : Int) else (IntKind.wrap .i64 ((((s.getD 14 0).toNat : Nat) : Int)))))).toNat).drop 15), (0 : Int)) = r := Option.some.inj h
        exact XS.fin [] ((True) ∧ ((True) ∧ (True))) (by kernel_rfl) ⟨trivial, ⟨trivial, trivial⟩⟩

/-! plugtree/plugref.WordAt -/
def F126 (n : Nat) (s : List UInt8) (vat : Int) : Option Int := (bif inb (IntKind.wrap .i64 (vat + (1 : Int))) s.length then (bif inb vat s.length then (some (IntKind.wrap .i64 ((IntKind.wrap .i64 ((256 : Int) * (IntKind.wrap .i64 ((((s.getD ((IntKind.wrap .i64 (vat + (1 : Int))).toNat) 0).toNat : Nat) : Int))))) + (IntKind.wrap .i64 ((((s.getD vat.toNat 0).toNat : Nat) : Int)))))) else none) else none)
theorem F126_ok (n : Nat) (s : List UInt8) (vat : Int) (r : Int) (h : F126 n s vat = some r) : PureC Try.prog 126 [(.str s), (.int .i64 vat)] (.int .i64 r) [] := by
  refine PureC.mkS Try.func126 rfl rfl ?_
  intro w0 fz0 hfz
  replace h : (bif inb (IntKind.wrap .i64 (vat + (1 : Int))) s.length then (bif inb vat s.length then (some (IntKind.wrap .i64 ((IntKind.wrap .i64 ((256 : Int) * (IntKind.wrap .i64 ((((s.getD ((IntKind.wrap .i64 (vat + (1 : Int))).toNat) 0).toNat : Nat) : Int))))) + (IntKind.wrap .i64 ((((s.getD vat.toNat 0).toNat : Nat) : Int)))))) else none) else none) = some r := h
  refine TS.seq ?_
  have hq : (True) ∧ (True) := ⟨trivial, trivial⟩
  refine TS.reg [] ?_ ?_
  · apply prop_of ?_ hq
    kernel_rfl
  refine XS.then ?_
  refine TS.seq ?_
  obtain ⟨t1, h⟩ := test_some h
  obtain ⟨t2, h⟩ := test_some h
  have hq : ((True) ∧ ((True) ∧ ((True) ∧ ((inR (IntKind.wrap .i64 (vat + (1 : Int))) s.length) ∧ ((True) ∧ ((True) ∧ ((True) ∧ ((True) ∧ ((inR vat s.length) ∧ ((True) ∧ ((True) ∧ (True)))))))))))) ∧ ((True) ∧ (True)) := ⟨⟨trivial, ⟨trivial, ⟨trivial, ⟨inb_ok t1, ⟨trivial, ⟨trivial, ⟨trivial, ⟨trivial, ⟨inb_ok t2, ⟨trivial, ⟨trivial, trivial⟩⟩⟩⟩⟩⟩⟩⟩⟩⟩⟩, ⟨trivial, trivial⟩⟩
  refine TS.draw 11 [] [] (by kernel_rfl) ?_ ?_
  · apply prop_of ?_ hq
    kernel_rfl
  refine XS.then ?_
  refine TS.ret ?_
  obtain rfl : (IntKind.wrap .i64 ((IntKind.wrap .i64 ((256 : Int) * (IntKind.wrap .i64 ((((s.getD ((IntKind.wrap .i64 (vat + (1 : Int))).toNat) 0).toNat : Nat) : Int))))) + (IntKind.wrap .i64 ((((s.getD vat.toNat 0).toNat : Nat) : Int))))) = r := Option.some.inj h
  exact XS.fin [] ((True) ∧ (True)) (by kernel_rfl) ⟨trivial, trivial⟩

/-! plugtree/plugref.lowNum -/
def F82 (n : Nat) (s : List UInt8) : Option Int := ((F126 n s (0 : Int)).bind fun y_2 => ((F126 n s (2 : Int)).bind fun y_3 => (some (IntKind.wrap .i64 (y_2 + (IntKind.wrap .i64 ((65536 : Int) * y_3)))))))
theorem F82_ok (n : Nat) (s : List UInt8) (r : Int) (h : F82 n s = some r) : PureC Try.prog 82 [(.str s)] (.int .i64 r) [] := by
  refine PureC.mkS Try.func82 rfl rfl ?_
  intro w0 fz0 hfz
  replace h : ((F126 n s (0 : Int)).bind fun y_2 => ((F126 n s (2 : Int)).bind fun y_3 => (some (IntKind.wrap .i64 (y_2 + (IntKind.wrap .i64 ((65536 : Int) * y_3))))))) = some r := h
  refine TS.seq ?_
  have hq : (True) ∧ (True) := ⟨trivial, trivial⟩
  refine TS.reg [] ?_ ?_
  · apply prop_of ?_ hq
    kernel_rfl
  refine XS.then ?_
  refine TS.seq ?_
  obtain ⟨y_2, hx1, h⟩ := bind_some' h
  obtain ⟨y_3, hx2, h⟩ := bind_some' h
  have hq : (True) ∧ ((PureC Try.prog 126 [(.str s), (.int .i64 (0 : Int))] (.int .i64 y_2) []) ∧ ((True) ∧ ((PureC Try.prog 126 [(.str s), (.int .i64 (2 : Int))] (.int .i64 y_3) []) ∧ ((True) ∧ ((True) ∧ ((True) ∧ (True))))))) := ⟨trivial, ⟨F126_ok n s (0 : Int) y_2 hx1, ⟨trivial, ⟨F126_ok n s (2 : Int) y_3 hx2, ⟨trivial, ⟨trivial, ⟨trivial, trivial⟩⟩⟩⟩⟩⟩⟩
  refine TS.reg [.none, (.call (.int .i64 y_2) []), .none, (.call (.int .i64 y_3) [])] ?_ ?_
  · apply prop_of ?_ hq
    kernel_rfl
  refine XS.then ?_
  refine TS.ret ?_
  obtain rfl : (IntKind.wrap .i64 (y_2 + (IntKind.wrap .i64 ((65536 : Int) * y_3)))) = r := Option.some.inj h
  exact XS.fin [] ((True) ∧ (True)) (by kernel_rfl) ⟨trivial, trivial⟩

/-! plugtree/plugref.ReadWrap -/
def F30_j2 (n : Nat) (s : List UInt8) : Bool → Option (Int × Int × Bool × Int × (List UInt8) × Int)
  | x => (bif x then (some ((0 : Int), (0 : Int), false, (0 : Int), ([] : List UInt8), (4 : Int))) else (bif subB s.length (some (4 : Int)) none then ((F82 n (s.drop 4)).bind fun y_7 => (bif subB s.length (some (8 : Int)) none then ((F82 n (s.drop 8)).bind fun y_8 => (bif inb (12 : Int) s.length then (bif inb (13 : Int) s.length then (bif subB s.length (some (15 : Int)) (some (IntKind.wrap .i64 ((15 : Int) + (IntKind.wrap .i64 ((((s.getD 14 0).toNat : Nat) : Int)))))) then (some (y_7, y_8, (decide ((((s.getD 12 0).toNat : Nat) : Int) > (0 : Int))), (IntKind.wrap .i64 ((((s.getD 13 0).toNat : Nat) : Int))), ((s.take (IntKind.wrap .i64 ((15 : Int) + (IntKind.wrap .i64 ((((s.getD 14 0).toNat : Nat) : Int))))).toNat).drop 15), (0 : Int))) else none) else none) else none)) else none)) else none))
def F30 (n : Nat) (s : List UInt8) : Option (Int × Int × Bool × Int × (List UInt8) × Int) := (bif (decide (((s.length : Nat) : Int) < (31 : Int))) then (some ((0 : Int), (0 : Int), false, (0 : Int), ([] : List UInt8), (3 : Int))) else (bif inb (14 : Int) s.length then (bif (decide (((s.length : Nat) : Int) > (31 : Int))) then (F30_j2 n s true) else (bif subB s.length none (some (4 : Int)) then (bif (!((s.take 4) == ([85, 83, 66, 67] : List UInt8))) then (F30_j2 n s true) else (bif inb (12 : Int) s.length then (bif ((((s.getD 12 0).toNat : Nat) : Int) != (0 : Int)) then (bif ((((s.getD 12 0).toNat : Nat) : Int) != (128 : Int)) then (F30_j2 n s true) else (bif inb (13 : Int) s.length then (bif (decide ((((s.getD 13 0).toNat : Nat) : Int) > (15 : Int))) then (F30_j2 n s true) else ((F15 n (IntKind.wrap .i64 ((((s.getD 14 0).toNat : Nat) : Int))) (1 : Int) (16 : Int)).bind fun y_9 => (bif (!y_9) then (F30_j2 n s true) else (bif subB s.length (some (IntKind.wrap .i64 ((15 : Int) + (IntKind.wrap .i64 ((((s.getD 14 0).toNat : Nat) : Int)))))) none then ((F41 n ([0] : List UInt8) (IntKind.wrap .i64 ((16 : Int) - (IntKind.wrap .i64 ((((s.getD 14 0).toNat : Nat) : Int)))))).bind fun y_10 => (F30_j2 n s (!((s.drop (IntKind.wrap .i64 ((15 : Int) + (IntKind.wrap .i64 ((((s.getD 14 0).toNat : Nat) : Int))))).toNat) == y_10)))) else none)))) else none)) else (bif inb (13 : Int) s.length then (bif (decide ((((s.getD 13 0).toNat : Nat) : Int) > (15 : Int))) then (F30_j2 n s true) else ((F15 n (IntKind.wrap .i64 ((((s.getD 14 0).toNat : Nat) : Int))) (1 : Int) (16 : Int)).bind fun y_11 => (bif (!y_11) then (F30_j2 n s true) else (bif subB s.length (some (IntKind.wrap .i64 ((15 : Int) + (IntKind.wrap .i64 ((((s.getD 14 0).toNat : Nat) : Int)))))) none then ((F41 n ([0] : List UInt8) (IntKind.wrap .i64 ((16 : Int) - (IntKind.wrap .i64 ((((s.getD 14 0).toNat : Nat) : Int)))))).bind fun y_12 => (F30_j2 n s (!((s.drop (IntKind.wrap .i64 ((15 : Int) + (IntKind.wrap .i64 ((((s.getD 14 0).toNat : Nat) : Int))))).toNat) == y_12)))) else none)))) else none)) else none)) else none)) else none))
theorem F30_ok (n : Nat) (s : List UInt8) (r : Int × Int × Bool × Int × (List UInt8) × Int) (h : F30 n s = some r) : PureC Try.prog 30 [(.str s)] (.tup (.cons (.st (.cons (.int .i64 r.1) (.cons (.int .i64 r.2.1) (.cons (.bool r.2.2.1) (.cons (.int .i64 r.2.2.2.1) (.str r.2.2.2.2.1)))))) (.cons (.int .i64 r.2.2.2.2.2) .nil))) [] := by
  refine PureC.mkS Try.func30 rfl rfl ?_
  intro w0 fz0 hfz
  replace h : (bif (decide (((s.length : Nat) : Int) < (31 : Int))) then (some ((0 : Int), (0 : Int), false, (0 : Int), ([] : List UInt8), (3 : Int))) else (bif inb (14 : Int) s.length then (bif (decide (((s.length : Nat) : Int) > (31 : Int))) then (F30_j2 n s true) else (bif subB s.length none (some (4 : Int)) then (bif (!((s.take 4) == ([85, 83, 66, 67] : List UInt8))) then (F30_j2 n s true) else (bif inb (12 : Int) s.length then (bif ((((s.getD 12 0).toNat : Nat) : Int) != (0 : Int)) then (bif ((((s.getD 12 0).toNat : Nat) : Int) != (128 : Int)) then (F30_j2 n s true) else (bif inb (13 : Int) s.length then (bif (decide ((((s.getD 13 0).toNat : Nat) : Int) > (15 : Int))) then (F30_j2 n s true) else ((F15 n (IntKind.wrap .i64 ((((s.getD 14 0).toNat : Nat) : Int))) (1 : Int) (16 : Int)).bind fun y_9 => (bif (!y_9) then (F30_j2 n s true) else (bif subB s.length (some (IntKind.wrap .i64 ((15 : Int) + (IntKind.wrap .i64 ((((s.getD 14 0).toNat : Nat) : Int)))))) none then ((F41 n ([0] : List UInt8) (IntKind.wrap .i64 ((16 : Int) - (IntKind.wrap .i64 ((((s.getD 14 0).toNat : Nat) : Int)))))).bind fun y_10 => (F30_j2 n s (!((s.drop (IntKind.wrap .i64 ((15 : Int) + (IntKind.wrap .i64 ((((s.getD 14 0).toNat : Nat) : Int))))).toNat) == y_10)))) else none)))) else none)) else (bif inb (13 : Int) s.length then (bif (decide ((((s.getD 13 0).toNat : Nat) : Int) > (15 : Int))) then (F30_j2 n s true) else ((F15 n (IntKind.wrap .i64 ((((s.getD 14 0).toNat : Nat) : Int))) (1 : Int) (16 : Int)).bind fun y_11 => (bif (!y_11) then (F30_j2 n s true) else (bif subB s.length (some (IntKind.wrap .i64 ((15 : Int) + (IntKind.wrap .i64 ((((s.getD 14 0).toNat : Nat) : Int)))))) none then ((F41 n ([0] : List UInt8) (IntKind.wrap .i64 ((16 : Int) - (IntKind.wrap .i64 ((((s.getD 14 0).toNat : Nat) : Int)))))).bind fun y_12 => (F30_j2 n s (!((s.drop (IntKind.wrap .i64 ((15 : Int) + (IntKind.wrap .i64 ((((s.getD 14 0).toNat : Nat) : Int))))).toNat) == y_12)))) else none)))) else none)) else none)) else none)) else none)) = some r := h
  refine TS.seq ?_
  have hq : (True) ∧ ((True) ∧ (True)) := ⟨trivial, ⟨trivial, trivial⟩⟩
  refine TS.reg [] ?_ ?_
  · apply prop_of ?_ hq
    kernel_rfl
  refine XS.then ?_
  refine TS.seq ?_
  refine TS.seq ?_
  have hq : (True) ∧ ((True) ∧ ((True) ∧ (True))) := ⟨trivial, ⟨trivial, ⟨trivial, trivial⟩⟩⟩
  refine TS.reg [] ?_ ?_
  · apply prop_of ?_ hq
    kernel_rfl
  refine XS.then ?_
  rcases bif_some h with ⟨c1, h⟩ | ⟨c2, h⟩
  · refine TS.cond (decide (((s.length : Nat) : Int) < (31 : Int))) ?_ (fun hcz => ?_) (fun hcz => by rw [c1] at hcz; cases hcz)
    · kernel_rfl
    refine TS.seq ?_
    have hq : (True) ∧ ((True) ∧ ((True) ∧ (True))) := ⟨trivial, ⟨trivial, ⟨trivial, trivial⟩⟩⟩
    refine TS.reg [] ?_ ?_
    · apply prop_of ?_ hq
      kernel_rfl
    refine XS.then ?_
    refine TS.ret ?_
    refine XS.passR ?_
    obtain rfl : ((0 : Int), (0 : Int), false, (0 : Int), ([] : List UInt8), (3 : Int)) = r := Option.some.inj h
    exact XS.fin [] ((True) ∧ ((True) ∧ (True))) (by kernel_rfl) ⟨trivial, ⟨trivial, trivial⟩⟩
  · refine TS.cond (decide (((s.length : Nat) : Int) < (31 : Int))) ?_ (fun hcz => by rw [c2] at hcz; cases hcz) (fun hcz => ?_)
    · kernel_rfl
    refine TS.skip ?_
    refine XS.then ?_
    refine TS.seq ?_
    obtain ⟨t3, h⟩ := test_some h
    have hq : (True) ∧ ((inR (14 : Int) s.length) ∧ ((True) ∧ ((True) ∧ (True)))) := ⟨trivial, ⟨inb_ok t3, ⟨trivial, ⟨trivial, trivial⟩⟩⟩⟩
    refine TS.reg [] ?_ ?_
    · apply prop_of ?_ hq
      kernel_rfl
    refine XS.then ?_
    refine TS.seq ?_
    refine TS.seq ?_
    refine TS.cut (D := Bool) (fun d => match d with | x => (mkTs 68 [(0, (.str s)), (2, (.ptr 0 [])), (4, (.int .i64 (IntKind.wrap .i64 ((((s.getD 14 0).toNat : Nat) : Int))))), (49, (.bool x))], [(.box 52 (.st (.cons (.int .i64 (0 : Int)) (.cons (.int .i64 (0 : Int)) (.cons (.bool false) (.cons (.int .i64 (0 : Int)) (.str ([] : List UInt8))))))))])) (fun d => F30_j2 n s d = some r) ?_ ?_
    · rintro x h
      replace h : (bif x then (some ((0 : Int), (0 : Int), false, (0 : Int), ([] : List UInt8), (4 : Int))) else (bif subB s.length (some (4 : Int)) none then ((F82 n (s.drop 4)).bind fun y_7 => (bif subB s.length (some (8 : Int)) none then ((F82 n (s.drop 8)).bind fun y_8 => (bif inb (12 : Int) s.length then (bif inb (13 : Int) s.length then (bif subB s.length (some (15 : Int)) (some (IntKind.wrap .i64 ((15 : Int) + (IntKind.wrap .i64 ((((s.getD 14 0).toNat : Nat) : Int)))))) then (some (y_7, y_8, (decide ((((s.getD 12 0).toNat : Nat) : Int) > (0 : Int))), (IntKind.wrap .i64 ((((s.getD 13 0).toNat : Nat) : Int))), ((s.take (IntKind.wrap .i64 ((15 : Int) + (IntKind.wrap .i64 ((((s.getD 14 0).toNat : Nat) : Int))))).toNat).drop 15), (0 : Int))) else none) else none) else none)) else none)) else none)) = some r := h
      refine XS.then ?_
      rcases bif_some h with ⟨c4, h⟩ | ⟨c5, h⟩
      · refine TS.cond x ?_ (fun hcz => ?_) (fun hcz => by rw [c4] at hcz; cases hcz)
        · kernel_rfl
        refine TS.seq ?_
        have hq : (True) ∧ ((True) ∧ ((True) ∧ (True))) := ⟨trivial, ⟨trivial, ⟨trivial, trivial⟩⟩⟩
        refine TS.reg [] ?_ ?_
        · apply prop_of ?_ hq
          kernel_rfl
        refine XS.then ?_
        refine TS.ret ?_
        refine XS.passR ?_
        obtain rfl : ((0 : Int), (0 : Int), false, (0 : Int), ([] : List UInt8), (4 : Int)) = r := Option.some.inj h
        exact XS.fin [] ((True) ∧ ((True) ∧ (True))) (by kernel_rfl) ⟨trivial, ⟨trivial, trivial⟩⟩
      · refine TS.cond x ?_ (fun hcz => by rw [c5] at hcz; cases hcz) (fun hcz => ?_)
        · kernel_rfl
        refine TS.skip ?_
        refine XS.then ?_
        refine TS.seq ?_
        obtain ⟨t6, h⟩ := test_some h
        obtain ⟨y_7, hx7, h⟩ := bind_some' h
        obtain ⟨t8, h⟩ := test_some h
        obtain ⟨y_8, hx9, h⟩ := bind_some' h
        obtain ⟨t10, h⟩ := test_some h
        obtain ⟨t11, h⟩ := test_some h
        obtain ⟨t12, h⟩ := test_some h
        have hq : ((True) ∧ ((subC s.length (some (4 : Int)) none) ∧ ((PureC Try.prog 82 [(.str (s.drop 4))] (.int .i64 y_7) []) ∧ ((True) ∧ ((subC s.length (some (8 : Int)) none) ∧ ((PureC Try.prog 82 [(.str (s.drop 8))] (.int .i64 y_8) []) ∧ ((True) ∧ ((inR (12 : Int) s.length) ∧ ((True) ∧ ((True) ∧ ((inR (13 : Int) s.length) ∧ ((True) ∧ ((True) ∧ ((True) ∧ ((True) ∧ ((subC s.length (some (15 : Int)) (some (IntKind.wrap .i64 ((15 : Int) + (IntKind.wrap .i64 ((((s.getD 14 0).toNat : Nat) : Int))))))) ∧ (((True) ∧ ((True) ∧ ((True) ∧ ((True) ∧ ((True) ∧ (True)))))) ∧ (True)))))))))))))))))) ∧ ((True) ∧ ((True) ∧ (True))) := ⟨⟨trivial, ⟨subB_ok t6, ⟨F82_ok n (s.drop 4) y_7 hx7, ⟨trivial, ⟨subB_ok t8, ⟨F82_ok n (s.drop 8) y_8 hx9, ⟨trivial, ⟨inb_ok t10, ⟨trivial, ⟨trivial, ⟨inb_ok t11, ⟨trivial, ⟨trivial, ⟨trivial, ⟨trivial, ⟨subB_ok t12, ⟨⟨trivial, ⟨trivial, ⟨trivial, ⟨trivial, ⟨trivial, trivial⟩⟩⟩⟩⟩, trivial⟩⟩⟩⟩⟩⟩⟩⟩⟩⟩⟩⟩⟩⟩⟩⟩⟩, ⟨trivial, ⟨trivial, trivial⟩⟩⟩
        refine TS.draw 17 [] [.none, .none, (.call (.int .i64 y_7) []), .none, .none, (.call (.int .i64 y_8) [])] (by kernel_rfl) ?_ ?_
        · apply prop_of ?_ hq
          kernel_rfl
        refine XS.then ?_
        refine TS.ret ?_
        obtain rfl : (y_7, y_8, (decide ((((s.getD 12 0).toNat : Nat) : Int) > (0 : Int))), (IntKind.wrap .i64 ((((s.getD 13 0).toNat : Nat) : Int))), ((s.take (IntKind.wrap .i64 ((15 : Int) + (IntKind.wrap .i64 ((((s.getD 14 0).toNat : Nat) : Int))))).toNat).drop 15), (0 : Int)) = r := Option.some.inj h
        exact XS.fin [] ((True) ∧ ((True) ∧ (True))) (by kernel_rfl) ⟨trivial, ⟨trivial, trivial⟩⟩
    · rcases bif_some h with ⟨c13, h⟩ | ⟨c14, h⟩
      · have hq : ((True) ∧ ((True) ∧ ((True) ∧ (((True) ∧ (decide (((s.length : Nat) : Int) > (31 : Int))) = true) ∧ ((True) ∧ ((True) ∧ ((True) ∧ ((True) ∧ ((True) ∧ ((True) ∧ ((True) ∧ ((True) ∧ ((True) ∧ (True)))))))))))))) ∧ (True) := ⟨⟨trivial, ⟨trivial, ⟨trivial, ⟨⟨trivial, c13⟩, ⟨trivial, ⟨trivial, ⟨trivial, ⟨trivial, ⟨trivial, ⟨trivial, ⟨trivial, ⟨trivial, ⟨trivial, trivial⟩⟩⟩⟩⟩⟩⟩⟩⟩⟩⟩⟩⟩, trivial⟩
        refine TS.draw 38 [] [.none, .none, .none, .dec true] (by kernel_rfl) ?_ ?_
        · apply prop_of ?_ hq
          kernel_rfl
        refine XS.reAny [0] (mkMask 68 [0, 2, 4, 49]) true h ?_
        kernel_rfl
      · obtain ⟨t15, h⟩ := test_some h
        rcases bif_some h with ⟨c16, h⟩ | ⟨c17, h⟩
        · have hq : ((True) ∧ ((True) ∧ ((True) ∧ (((True) ∧ (decide (((s.length : Nat) : Int) > (31 : Int))) = false) ∧ ((True) ∧ ((subC s.length none (some (4 : Int))) ∧ ((True) ∧ ((True) ∧ (((True) ∧ (!((s.take 4) == ([85, 83, 66, 67] : List UInt8))) = true) ∧ ((True) ∧ ((True) ∧ ((True) ∧ ((True) ∧ ((True) ∧ ((True) ∧ ((True) ∧ (True))))))))))))))))) ∧ (True) := ⟨⟨trivial, ⟨trivial, ⟨trivial, ⟨⟨trivial, c14⟩, ⟨trivial, ⟨subB_ok t15, ⟨trivial, ⟨trivial, ⟨⟨trivial, c16⟩, ⟨trivial, ⟨trivial, ⟨trivial, ⟨trivial, ⟨trivial, ⟨trivial, ⟨trivial, trivial⟩⟩⟩⟩⟩⟩⟩⟩⟩⟩⟩⟩⟩⟩⟩⟩, trivial⟩
          refine TS.draw 38 [] [.none, .none, .none, .dec false, .none, .none, .none, .none, .dec true] (by kernel_rfl) ?_ ?_
          · apply prop_of ?_ hq
            kernel_rfl
          refine XS.reAny [0] (mkMask 68 [0, 2, 4, 49]) true h ?_
          kernel_rfl
        · obtain ⟨t18, h⟩ := test_some h
          rcases bif_some h with ⟨c19, h⟩ | ⟨c20, h⟩
          · rcases bif_some h with ⟨c21, h⟩ | ⟨c22, h⟩
            · have hq : ((True) ∧ ((True) ∧ ((True) ∧ (((True) ∧ (decide (((s.length : Nat) : Int) > (31 : Int))) = false) ∧ ((True) ∧ ((subC s.length none (some (4 : Int))) ∧ ((True) ∧ ((True) ∧ (((True) ∧ (!((s.take 4) == ([85, 83, 66, 67] : List UInt8))) = false) ∧ ((True) ∧ ((inR (12 : Int) s.length) ∧ ((True) ∧ (((True) ∧ ((((s.getD 12 0).toNat : Nat) : Int) != (0 : Int)) = true) ∧ ((True) ∧ ((inR (12 : Int) s.length) ∧ ((True) ∧ ((True) ∧ ((True) ∧ (((True) ∧ ((((s.getD 12 0).toNat : Nat) : Int) != (128 : Int)) = true) ∧ ((True) ∧ ((True) ∧ ((True) ∧ ((True) ∧ ((True) ∧ (True))))))))))))))))))))))))) ∧ (True) := ⟨⟨trivial, ⟨trivial, ⟨trivial, ⟨⟨trivial, c14⟩, ⟨trivial, ⟨subB_ok t15, ⟨trivial, ⟨trivial, ⟨⟨trivial, c17⟩, ⟨trivial, ⟨inb_ok t18, ⟨trivial, ⟨⟨trivial, c19⟩, ⟨trivial, ⟨inb_ok t18, ⟨trivial, ⟨trivial, ⟨trivial, ⟨⟨trivial, c21⟩, ⟨trivial, ⟨trivial, ⟨trivial, ⟨trivial, ⟨trivial, trivial⟩⟩⟩⟩⟩⟩⟩⟩⟩⟩⟩⟩⟩⟩⟩⟩⟩⟩⟩⟩⟩⟩⟩⟩, trivial⟩
              refine TS.draw 38 [] [.none, .none, .none, .dec false, .none, .none, .none, .none, .dec false, .none, .none, .none, .dec true, .none, .none, .none, .none, .none, .dec true] (by kernel_rfl) ?_ ?_
              · apply prop_of ?_ hq
                kernel_rfl
              refine XS.reAny [0] (mkMask 68 [0, 2, 4, 49]) true h ?_
              kernel_rfl
            · obtain ⟨t23, h⟩ := test_some h
              rcases bif_some h with ⟨c24, h⟩ | ⟨c25, h⟩
              · have hq : ((True) ∧ ((True) ∧ ((True) ∧ (((True) ∧ (decide (((s.length : Nat) : Int) > (31 : Int))) = false) ∧ ((True) ∧ ((subC s.length none (some (4 : Int))) ∧ ((True) ∧ ((True) ∧ (((True) ∧ (!((s.take 4) == ([85, 83, 66, 67] : List UInt8))) = false) ∧ ((True) ∧ ((inR (12 : Int) s.length) ∧ ((True) ∧ (((True) ∧ ((((s.getD 12 0).toNat : Nat) : Int) != (0 : Int)) = true) ∧ ((True) ∧ ((inR (12 : Int) s.length) ∧ ((True) ∧ ((True) ∧ ((True) ∧ (((True) ∧ ((((s.getD 12 0).toNat : Nat) : Int) != (128 : Int)) = false) ∧ ((True) ∧ ((inR (13 : Int) s.length) ∧ ((True) ∧ ((True) ∧ (((True) ∧ (decide ((((s.getD 13 0).toNat : Nat) : Int) > (15 : Int))) = true) ∧ ((True) ∧ ((True) ∧ ((True) ∧ (True)))))))))))))))))))))))))))) ∧ (True) := ⟨⟨trivial, ⟨trivial, ⟨trivial, ⟨⟨trivial, c14⟩, ⟨trivial, ⟨subB_ok t15, ⟨trivial, ⟨trivial, ⟨⟨trivial, c17⟩, ⟨trivial, ⟨inb_ok t18, ⟨trivial, ⟨⟨trivial, c19⟩, ⟨trivial, ⟨inb_ok t18, ⟨trivial, ⟨trivial, ⟨trivial, ⟨⟨trivial, c22⟩, ⟨trivial, ⟨inb_ok t23, ⟨trivial, ⟨trivial, ⟨⟨trivial, c24⟩, ⟨trivial, ⟨trivial, ⟨trivial, trivial⟩⟩⟩⟩⟩⟩⟩⟩⟩⟩⟩⟩⟩⟩⟩⟩⟩⟩⟩⟩⟩⟩⟩⟩⟩⟩⟩, trivial⟩
                refine TS.draw 38 [] [.none, .none, .none, .dec false, .none, .none, .none, .none, .dec false, .none, .none, .none, .dec true, .none, .none, .none, .none, .none, .dec false, .none, .none, .none, .none, .dec true] (by kernel_rfl) ?_ ?_
                · apply prop_of ?_ hq
                  kernel_rfl
                refine XS.reAny [0] (mkMask 68 [0, 2, 4, 49]) true h ?_
                kernel_rfl
              · obtain ⟨y_9, hx26, h⟩ := bind_some' h
                rcases bif_some h with ⟨c27, h⟩ | ⟨c28, h⟩
                · have hq : ((True) ∧ ((True) ∧ ((True) ∧ (((True) ∧ (decide (((s.length : Nat) : Int) > (31 : Int))) = false) ∧ ((True) ∧ ((subC s.length none (some (4 : Int))) ∧ ((True) ∧ ((True) ∧ (((True) ∧ (!((s.take 4) == ([85, 83, 66, 67] : List UInt8))) = false) ∧ ((True) ∧ ((inR (12 : Int) s.length) ∧ ((True) ∧ (((True) ∧ ((((s.getD 12 0).toNat : Nat) : Int) != (0 : Int)) = true) ∧ ((True) ∧ ((inR (12 : Int) s.length) ∧ ((True) ∧ ((True) ∧ ((True) ∧ (((True) ∧ ((((s.getD 12 0).toNat : Nat) : Int) != (128 : Int)) = false) ∧ ((True) ∧ ((inR (13 : Int) s.length) ∧ ((True) ∧ ((True) ∧ (((True) ∧ (decide ((((s.getD 13 0).toNat : Nat) : Int) > (15 : Int))) = false) ∧ ((True) ∧ ((PureC Try.prog 15 [(.int .i64 (IntKind.wrap .i64 ((((s.getD 14 0).toNat : Nat) : Int)))), (.int .i64 (1 : Int)), (.int .i64 (16 : Int))] (.bool y_9) []) ∧ ((True) ∧ ((True) ∧ (((True) ∧ (!y_9) = true) ∧ ((True) ∧ (True))))))))))))))))))))))))))))))) ∧ (True) := ⟨⟨trivial, ⟨trivial, ⟨trivial, ⟨⟨trivial, c14⟩, ⟨trivial, ⟨subB_ok t15, ⟨trivial, ⟨trivial, ⟨⟨trivial, c17⟩, ⟨trivial, ⟨inb_ok t18, ⟨trivial, ⟨⟨trivial, c19⟩, ⟨trivial, ⟨inb_ok t18, ⟨trivial, ⟨trivial, ⟨trivial, ⟨⟨trivial, c22⟩, ⟨trivial, ⟨inb_ok t23, ⟨trivial, ⟨trivial, ⟨⟨trivial, c25⟩, ⟨trivial, ⟨F15_ok n (IntKind.wrap .i64 ((((s.getD 14 0).toNat : Nat) : Int))) (1 : Int) (16 : Int) y_9 hx26, ⟨trivial, ⟨trivial, ⟨⟨trivial, c27⟩, ⟨trivial, trivial⟩⟩⟩⟩⟩⟩⟩⟩⟩⟩⟩⟩⟩⟩⟩⟩⟩⟩⟩⟩⟩⟩⟩⟩⟩⟩⟩⟩⟩⟩, trivial⟩
                  refine TS.draw 38 [] [.none, .none, .none, .dec false, .none, .none, .none, .none, .dec false, .none, .none, .none, .dec true, .none, .none, .none, .none, .none, .dec false, .none, .none, .none, .none, .dec false, .none, (.call (.bool y_9) []), .none, .none, .dec true] (by kernel_rfl) ?_ ?_
                  · apply prop_of ?_ hq
                    kernel_rfl
                  refine XS.reAny [0] (mkMask 68 [0, 2, 4, 49]) true h ?_
                  kernel_rfl
                · obtain ⟨t29, h⟩ := test_some h
                  obtain ⟨y_10, hx30, h⟩ := bind_some' h
                  have hq : ((True) ∧ ((True) ∧ ((True) ∧ (((True) ∧ (decide (((s.length : Nat) : Int) > (31 : Int))) = false) ∧ ((True) ∧ ((subC s.length none (some (4 : Int))) ∧ ((True) ∧ ((True) ∧ (((True) ∧ (!((s.take 4) == ([85, 83, 66, 67] : List UInt8))) = false) ∧ ((True) ∧ ((inR (12 : Int) s.length) ∧ ((True) ∧ (((True) ∧ ((((s.getD 12 0).toNat : Nat) : Int) != (0 : Int)) = true) ∧ ((True) ∧ ((inR (12 : Int) s.length) ∧ ((True) ∧ ((True) ∧ ((True) ∧ (((True) ∧ ((((s.getD 12 0).toNat : Nat) : Int) != (128 : Int)) = false) ∧ ((True) ∧ ((inR (13 : Int) s.length) ∧ ((True) ∧ ((True) ∧ (((True) ∧ (decide ((((s.getD 13 0).toNat : Nat) : Int) > (15 : Int))) = false) ∧ ((True) ∧ ((PureC Try.prog 15 [(.int .i64 (IntKind.wrap .i64 ((((s.getD 14 0).toNat : Nat) : Int)))), (.int .i64 (1 : Int)), (.int .i64 (16 : Int))] (.bool y_9) []) ∧ ((True) ∧ ((True) ∧ (((True) ∧ (!y_9) = false) ∧ ((True) ∧ ((True) ∧ ((True) ∧ ((subC s.length (some (IntKind.wrap .i64 ((15 : Int) + (IntKind.wrap .i64 ((((s.getD 14 0).toNat : Nat) : Int)))))) none) ∧ ((True) ∧ ((True) ∧ ((PureC Try.prog 41 [(.str ([0] : List UInt8)), (.int .i64 (IntKind.wrap .i64 ((16 : Int) - (IntKind.wrap .i64 ((((s.getD 14 0).toNat : Nat) : Int))))))] (.str y_10) []) ∧ ((True) ∧ ((True) ∧ (True))))))))))))))))))))))))))))))))))))))) ∧ (True) := ⟨⟨trivial, ⟨trivial, ⟨trivial, ⟨⟨trivial, c14⟩, ⟨trivial, ⟨subB_ok t15, ⟨trivial, ⟨trivial, ⟨⟨trivial, c17⟩, ⟨trivial, ⟨inb_ok t18, ⟨trivial, ⟨⟨trivial, c19⟩, ⟨trivial, ⟨inb_ok t18, ⟨trivial, ⟨trivial, ⟨trivial, ⟨⟨trivial, c22⟩, ⟨trivial, ⟨inb_ok t23, ⟨trivial, ⟨trivial, ⟨⟨trivial, c25⟩, ⟨trivial, ⟨F15_ok n (IntKind.wrap .i64 ((((s.getD 14 0).toNat : Nat) : Int))) (1 : Int) (16 : Int) y_9 hx26, ⟨trivial, ⟨trivial, ⟨⟨trivial, c28⟩, ⟨trivial, ⟨trivial, ⟨trivial, ⟨subB_ok t29, ⟨trivial, ⟨trivial, ⟨F41_ok n ([0] : List UInt8) (IntKind.wrap .i64 ((16 : Int) - (IntKind.wrap .i64 ((((s.getD 14 0).toNat : Nat) : Int))))) y_10 hx30, ⟨trivial, ⟨trivial, trivial⟩⟩⟩⟩⟩⟩⟩⟩⟩⟩⟩⟩⟩⟩⟩⟩⟩⟩⟩⟩⟩⟩⟩⟩⟩⟩⟩⟩⟩⟩⟩⟩⟩⟩⟩⟩⟩⟩, trivial⟩
                  refine TS.draw 38 [] [.none, .none, .none, .dec false, .none, .none, .none, .none, .dec false, .none, .none, .none, .dec true, .none, .none, .none, .none, .none, .dec false, .none, .none, .none, .none, .dec false, .none, (.call (.bool y_9) []), .none, .none, .dec false, .none, .none, .none, .none, .none, .none, (.call (.str y_10) [])] (by kernel_rfl) ?_ ?_
                  · apply prop_of ?_ hq
                    kernel_rfl
                  refine XS.reAny [0] (mkMask 68 [0, 2, 4, 49]) (!((s.drop (IntKind.wrap .i64 ((15 : Int) + (IntKind.wrap .i64 ((((s.getD 14 0).toNat : Nat) : Int))))).toNat) == y_10)) h ?_
                  kernel_rfl
          · obtain ⟨t31, h⟩ := test_some h
            rcases bif_some h with ⟨c32, h⟩ | ⟨c33, h⟩
            · have hq : ((True) ∧ ((True) ∧ ((True) ∧ (((True) ∧ (decide (((s.length : Nat) : Int) > (31 : Int))) = false) ∧ ((True) ∧ ((subC s.length none (some (4 : Int))) ∧ ((True) ∧ ((True) ∧ (((True) ∧ (!((s.take 4) == ([85, 83, 66, 67] : List UInt8))) = false) ∧ ((True) ∧ ((inR (12 : Int) s.length) ∧ ((True) ∧ (((True) ∧ ((((s.getD 12 0).toNat : Nat) : Int) != (0 : Int)) = false) ∧ ((True) ∧ ((True) ∧ ((True) ∧ ((True) ∧ ((inR (13 : Int) s.length) ∧ ((True) ∧ ((True) ∧ (((True) ∧ (decide ((((s.getD 13 0).toNat : Nat) : Int) > (15 : Int))) = true) ∧ ((True) ∧ ((True) ∧ ((True) ∧ (True))))))))))))))))))))))))) ∧ (True) := ⟨⟨trivial, ⟨trivial, ⟨trivial, ⟨⟨trivial, c14⟩, ⟨trivial, ⟨subB_ok t15, ⟨trivial, ⟨trivial, ⟨⟨trivial, c17⟩, ⟨trivial, ⟨inb_ok t18, ⟨trivial, ⟨⟨trivial, c20⟩, ⟨trivial, ⟨trivial, ⟨trivial, ⟨trivial, ⟨inb_ok t31, ⟨trivial, ⟨trivial, ⟨⟨trivial, c32⟩, ⟨trivial, ⟨trivial, ⟨trivial, trivial⟩⟩⟩⟩⟩⟩⟩⟩⟩⟩⟩⟩⟩⟩⟩⟩⟩⟩⟩⟩⟩⟩⟩⟩, trivial⟩
              refine TS.draw 38 [] [.none, .none, .none, .dec false, .none, .none, .none, .none, .dec false, .none, .none, .none, .dec false, .none, .none, .none, .none, .none, .none, .none, .none, .none, .none, .dec true] (by kernel_rfl) ?_ ?_
              · apply prop_of ?_ hq
                kernel_rfl
              refine XS.reAny [0] (mkMask 68 [0, 2, 4, 49]) true h ?_
              kernel_rfl
            · obtain ⟨y_11, hx34, h⟩ := bind_some' h
              rcases bif_some h with ⟨c35, h⟩ | ⟨c36, h⟩
              · have hq : ((True) ∧ ((True) ∧ ((True) ∧ (((True) ∧ (decide (((s.length : Nat) : Int) > (31 : Int))) = false) ∧ ((True) ∧ ((subC s.length none (some (4 : Int))) ∧ ((True) ∧ ((True) ∧ (((True) ∧ (!((s.take 4) == ([85, 83, 66, 67] : List UInt8))) = false) ∧ ((True) ∧ ((inR (12 : Int) s.length) ∧ ((True) ∧ (((True) ∧ ((((s.getD 12 0).toNat : Nat) : Int) != (0 : Int)) = false) ∧ ((True) ∧ ((True) ∧ ((True) ∧ ((True) ∧ ((inR (13 : Int) s.length) ∧ ((True) ∧ ((True) ∧ (((True) ∧ (decide ((((s.getD 13 0).toNat : Nat) : Int) > (15 : Int))) = false) ∧ ((True) ∧ ((PureC Try.prog 15 [(.int .i64 (IntKind.wrap .i64 ((((s.getD 14 0).toNat : Nat) : Int)))), (.int .i64 (1 : Int)), (.int .i64 (16 : Int))] (.bool y_11) []) ∧ ((True) ∧ ((True) ∧ (((True) ∧ (!y_11) = true) ∧ ((True) ∧ (True)))))))))))))))))))))))))))) ∧ (True) := ⟨⟨trivial, ⟨trivial, ⟨trivial, ⟨⟨trivial, c14⟩, ⟨trivial, ⟨subB_ok t15, ⟨trivial, ⟨trivial, ⟨⟨trivial, c17⟩, ⟨trivial, ⟨inb_ok t18, ⟨trivial, ⟨⟨trivial, c20⟩, ⟨trivial, ⟨trivial, ⟨trivial, ⟨trivial, ⟨inb_ok t31, ⟨trivial, ⟨trivial, ⟨⟨trivial, c33⟩, ⟨trivial, ⟨F15_ok n (IntKind.wrap .i64 ((((s.getD 14 0).toNat : Nat) : Int))) (1 : Int) (16 : Int) y_11 hx34, ⟨trivial, ⟨trivial, ⟨⟨trivial, c35⟩, ⟨trivial, trivial⟩⟩⟩⟩⟩⟩⟩⟩⟩⟩⟩⟩⟩⟩⟩⟩⟩⟩⟩⟩⟩⟩⟩⟩⟩⟩⟩, trivial⟩
                refine TS.draw 38 [] [.none, .none, .none, .dec false, .none, .none, .none, .none, .dec false, .none, .none, .none, .dec false, .none, .none, .none, .none, .none, .none, .none, .none, .none, .none, .dec false, .none, (.call (.bool y_11) []), .none, .none, .dec true] (by kernel_rfl) ?_ ?_
                · apply prop_of ?_ hq
                  kernel_rfl
                refine XS.reAny [0] (mkMask 68 [0, 2, 4, 49]) true h ?_
                kernel_rfl
              · obtain ⟨t37, h⟩ := test_some h
                obtain ⟨y_12, hx38, h⟩ := bind_some' h
                have hq : ((True) ∧ ((True) ∧ ((True) ∧ (((True) ∧ (decide (((s.length : Nat) : Int) > (31 : Int))) = false) ∧ ((True) ∧ ((subC s.length none (some (4 : Int))) ∧ ((True) ∧ ((True) ∧ (((True) ∧ (!((s.take 4) == ([85, 83, 66, 67] : List UInt8))) = false) ∧ ((True) ∧ ((inR (12 : Int) s.length) ∧ ((True) ∧ (((True) ∧ ((((s.getD 12 0).toNat : Nat) : Int) != (0 : Int)) = false) ∧ ((True) ∧ ((True) ∧ ((True) ∧ ((True) ∧ ((inR (13 : Int) s.length) ∧ ((True) ∧ ((True) ∧ (((True) ∧ (decide ((((s.getD 13 0).toNat : Nat) : Int) > (15 : Int))) = false) ∧ ((True) ∧ ((PureC Try.prog 15 [(.int .i64 (IntKind.wrap .i64 ((((s.getD 14 0).toNat : Nat) : Int)))), (.int .i64 (1 : Int)), (.int .i64 (16 : Int))] (.bool y_11) []) ∧ ((True) ∧ ((True) ∧ (((True) ∧ (!y_11) = false) ∧ ((True) ∧ ((True) ∧ ((True) ∧ ((subC s.length (some (IntKind.wrap .i64 ((15 : Int) + (IntKind.wrap .i64 ((((s.getD 14 0).toNat : Nat) : Int)))))) none) ∧ ((True) ∧ ((True) ∧ ((PureC Try.prog 41 [(.str ([0] : List UInt8)), (.int .i64 (IntKind.wrap .i64 ((16 : Int) - (IntKind.wrap .i64 ((((s.getD 14 0).toNat : Nat) : Int))))))] (.str y_12) []) ∧ ((True) ∧ ((True) ∧ (True)))))))))))))))))))))))))))))))))))) ∧ (True) := ⟨⟨trivial, ⟨trivial, ⟨trivial, ⟨⟨trivial, c14⟩, ⟨trivial, ⟨subB_ok t15, ⟨trivial, ⟨trivial, ⟨⟨trivial, c17⟩, ⟨trivial, ⟨inb_ok t18, ⟨trivial, ⟨⟨trivial, c20⟩, ⟨trivial, ⟨trivial, ⟨trivial, ⟨trivial, ⟨inb_ok t31, ⟨trivial, ⟨trivial, ⟨⟨trivial, c33⟩, ⟨trivial, ⟨F15_ok n (IntKind.wrap .i64 ((((s.getD 14 0).toNat : Nat) : Int))) (1 : Int) (16 : Int) y_11 hx34, ⟨trivial, ⟨trivial, ⟨⟨trivial, c36⟩, ⟨trivial, ⟨trivial, ⟨trivial, ⟨subB_ok t37, ⟨trivial, ⟨trivial, ⟨F41_ok n ([0] : List UInt8) (IntKind.wrap .i64 ((16 : Int) - (IntKind.wrap .i64 ((((s.getD 14 0).toNat : Nat) : Int))))) y_12 hx38, ⟨trivial, ⟨trivial, trivial⟩⟩⟩⟩⟩⟩⟩⟩⟩⟩⟩⟩⟩⟩⟩⟩⟩⟩⟩⟩⟩⟩⟩⟩⟩⟩⟩⟩⟩⟩⟩⟩⟩⟩⟩, trivial⟩
                refine TS.draw 38 [] [.none, .none, .none, .dec false, .none, .none, .none, .none, .dec false, .none, .none, .none, .dec false, .none, .none, .none, .none, .none, .none, .none, .none, .none, .none, .dec false, .none, (.call (.bool y_11) []), .none, .none, .dec false, .none, .none, .none, .none, .none, .none, (.call (.str y_12) [])] (by kernel_rfl) ?_ ?_
                · apply prop_of ?_ hq
                  kernel_rfl
                refine XS.reAny [0] (mkMask 68 [0, 2, 4, 49]) (!((s.drop (IntKind.wrap .i64 ((15 : Int) + (IntKind.wrap .i64 ((((s.getD 14 0).toNat : Nat) : Int))))).toNat) == y_12)) h ?_
                kernel_rfl

/-! plugtree/pluglaw.BulkWraps -/
def F6 (n : Nat) (w_Tag : Int) (w_Length : Int) (w_In : Bool) (w_Unit : Int) (w_Command : List UInt8) (s : List UInt8) : Option Bool := ((F27 n w_Tag w_Length w_In w_Unit w_Command).bind fun y_2 => ((F28 n w_Tag w_Length w_In w_Unit w_Command).bind fun y_3 => ((F29 n s).bind fun y_4 => ((F30 n s).bind fun y_5 => (bif (y_2.1 == y_3.1) then (bif (y_2.2 == y_3.2) then (bif (Sh.beq (.st (.pair (.int .i64) (.pair (.int .i64) (.pair .bool (.pair (.int .i64) .str))))) (y_4.1, (y_4.2.1, (y_4.2.2.1, (y_4.2.2.2.1, y_4.2.2.2.2.1)))) (y_5.1, (y_5.2.1, (y_5.2.2.1, (y_5.2.2.2.1, y_5.2.2.2.2.1))))) then (some (y_4.2.2.2.2.2 == y_5.2.2.2.2.2)) else (some false)) else (some false)) else (some false))))))
theorem F6_ok (n : Nat) (w_Tag : Int) (w_Length : Int) (w_In : Bool) (w_Unit : Int) (w_Command : List UInt8) (s : List UInt8) (r : Bool) (h : F6 n w_Tag w_Length w_In w_Unit w_Command s = some r) : PureC Try.prog 6 [(.st (.cons (.int .i64 w_Tag) (.cons (.int .i64 w_Length) (.cons (.bool w_In) (.cons (.int .i64 w_Unit) (.str w_Command)))))), (.str s)] (.bool r) [] := by
  refine PureC.mkS Try.func6 rfl rfl ?_
  intro w0 fz0 hfz
  replace h : ((F27 n w_Tag w_Length w_In w_Unit w_Command).bind fun y_2 => ((F28 n w_Tag w_Length w_In w_Unit w_Command).bind fun y_3 => ((F29 n s).bind fun y_4 => ((F30 n s).bind fun y_5 => (bif (y_2.1 == y_3.1) then (bif (y_2.2 == y_3.2) then (bif (Sh.beq (.st (.pair (.int .i64) (.pair (.int .i64) (.pair .bool (.pair (.int .i64) .str))))) (y_4.1, (y_4.2.1, (y_4.2.2.1, (y_4.2.2.2.1, y_4.2.2.2.2.1)))) (y_5.1, (y_5.2.1, (y_5.2.2.1, (y_5.2.2.2.1, y_5.2.2.2.2.1))))) then (some (y_4.2.2.2.2.2 == y_5.2.2.2.2.2)) else (some false)) else (some false)) else (some false)))))) = some r := h
  refine TS.seq ?_
  have hq : (True) ∧ ((True) ∧ (True)) := ⟨trivial, ⟨trivial, trivial⟩⟩
  refine TS.reg [] ?_ ?_
  · apply prop_of ?_ hq
    kernel_rfl
  refine XS.then ?_
  refine TS.seq ?_
  obtain ⟨y_2, hx1, h⟩ := bind_some' h
  have hq : (True) ∧ ((PureC Try.prog 27 [(.st (.cons (.int .i64 w_Tag) (.cons (.int .i64 w_Length) (.cons (.bool w_In) (.cons (.int .i64 w_Unit) (.str w_Command))))))] (.tup (.cons (.str y_2.1) (.cons (.int .i64 y_2.2) .nil))) []) ∧ ((True) ∧ ((True) ∧ ((True) ∧ ((True) ∧ ((True) ∧ (True))))))) := ⟨trivial, ⟨F27_ok n w_Tag w_Length w_In w_Unit w_Command y_2 hx1, ⟨trivial, ⟨trivial, ⟨trivial, ⟨trivial, ⟨trivial, trivial⟩⟩⟩⟩⟩⟩⟩
  refine TS.reg [.none, (.call (.tup (.cons (.str y_2.1) (.cons (.int .i64 y_2.2) .nil))) [])] ?_ ?_
  · apply prop_of ?_ hq
    kernel_rfl
  refine XS.then ?_
  refine TS.seq ?_
  obtain ⟨y_3, hx2, h⟩ := bind_some' h
  have hq : (True) ∧ ((PureC Try.prog 28 [(.st (.cons (.int .i64 w_Tag) (.cons (.int .i64 w_Length) (.cons (.bool w_In) (.cons (.int .i64 w_Unit) (.str w_Command))))))] (.tup (.cons (.str y_3.1) (.cons (.int .i64 y_3.2) .nil))) []) ∧ ((True) ∧ ((True) ∧ ((True) ∧ ((True) ∧ ((True) ∧ (True))))))) := ⟨trivial, ⟨F28_ok n w_Tag w_Length w_In w_Unit w_Command y_3 hx2, ⟨trivial, ⟨trivial, ⟨trivial, ⟨trivial, ⟨trivial, trivial⟩⟩⟩⟩⟩⟩⟩
  refine TS.reg [.none, (.call (.tup (.cons (.str y_3.1) (.cons (.int .i64 y_3.2) .nil))) [])] ?_ ?_
  · apply prop_of ?_ hq
    kernel_rfl
  refine XS.then ?_
  refine TS.seq ?_
  obtain ⟨y_4, hx3, h⟩ := bind_some' h
  have hq : (True) ∧ ((PureC Try.prog 29 [(.str s)] (.tup (.cons (.st (.cons (.int .i64 y_4.1) (.cons (.int .i64 y_4.2.1) (.cons (.bool y_4.2.2.1) (.cons (.int .i64 y_4.2.2.2.1) (.str y_4.2.2.2.2.1)))))) (.cons (.int .i64 y_4.2.2.2.2.2) .nil))) []) ∧ ((True) ∧ ((True) ∧ ((True) ∧ ((True) ∧ ((True) ∧ ((True) ∧ (True)))))))) := ⟨trivial, ⟨F29_ok n s y_4 hx3, ⟨trivial, ⟨trivial, ⟨trivial, ⟨trivial, ⟨trivial, ⟨trivial, trivial⟩⟩⟩⟩⟩⟩⟩⟩
  refine TS.reg [.none, (.call (.tup (.cons (.st (.cons (.int .i64 y_4.1) (.cons (.int .i64 y_4.2.1) (.cons (.bool y_4.2.2.1) (.cons (.int .i64 y_4.2.2.2.1) (.str y_4.2.2.2.2.1)))))) (.cons (.int .i64 y_4.2.2.2.2.2) .nil))) [])] ?_ ?_
  · apply prop_of ?_ hq
    kernel_rfl
  refine XS.then ?_
  refine TS.seq ?_
  obtain ⟨y_5, hx4, h⟩ := bind_some' h
  have hq : (True) ∧ ((PureC Try.prog 30 [(.str s)] (.tup (.cons (.st (.cons (.int .i64 y_5.1) (.cons (.int .i64 y_5.2.1) (.cons (.bool y_5.2.2.1) (.cons (.int .i64 y_5.2.2.2.1) (.str y_5.2.2.2.2.1)))))) (.cons (.int .i64 y_5.2.2.2.2.2) .nil))) []) ∧ ((True) ∧ ((True) ∧ ((True) ∧ ((True) ∧ ((True) ∧ ((True) ∧ (True)))))))) := ⟨trivial, ⟨F30_ok n s y_5 hx4, ⟨trivial, ⟨trivial, ⟨trivial, ⟨trivial, ⟨trivial, ⟨trivial, trivial⟩⟩⟩⟩⟩⟩⟩⟩
  refine TS.reg [.none, (.call (.tup (.cons (.st (.cons (.int .i64 y_5.1) (.cons (.int .i64 y_5.2.1) (.cons (.bool y_5.2.2.1) (.cons (.int .i64 y_5.2.2.2.1) (.str y_5.2.2.2.2.1)))))) (.cons (.int .i64 y_5.2.2.2.2.2) .nil))) [])] ?_ ?_
  · apply prop_of ?_ hq
    kernel_rfl
  refine XS.then ?_
  refine TS.seq ?_
  rcases bif_some h with ⟨c5, h⟩ | ⟨c6, h⟩
  · rcases bif_some h with ⟨c7, h⟩ | ⟨c8, h⟩
    · rcases bif_some h with ⟨c9, h⟩ | ⟨c10, h⟩
      · have hq : (True) ∧ ((True) ∧ ((True) ∧ (((True) ∧ (y_2.1 == y_3.1) = true) ∧ ((True) ∧ ((True) ∧ ((True) ∧ ((True) ∧ (((True) ∧ (y_2.2 == y_3.2) = true) ∧ ((True) ∧ ((True) ∧ ((True) ∧ ((True) ∧ (((True) ∧ (Sh.beq (.st (.pair (.int .i64) (.pair (.int .i64) (.pair .bool (.pair (.int .i64) .str))))) (y_4.1, (y_4.2.1, (y_4.2.2.1, (y_4.2.2.2.1, y_4.2.2.2.2.1)))) (y_5.1, (y_5.2.1, (y_5.2.2.1, (y_5.2.2.2.1, y_5.2.2.2.2.1))))) = true) ∧ ((True) ∧ ((True) ∧ ((True) ∧ ((True) ∧ ((True) ∧ (True))))))))))))))))))) := ⟨trivial, ⟨trivial, ⟨trivial, ⟨⟨trivial, c5⟩, ⟨trivial, ⟨trivial, ⟨trivial, ⟨trivial, ⟨⟨trivial, c7⟩, ⟨trivial, ⟨trivial, ⟨trivial, ⟨trivial, ⟨⟨trivial, c9⟩, ⟨trivial, ⟨trivial, ⟨trivial, ⟨trivial, ⟨trivial, trivial⟩⟩⟩⟩⟩⟩⟩⟩⟩⟩⟩⟩⟩⟩⟩⟩⟩⟩⟩
        refine TS.reg [.none, .none, .none, .dec true, .none, .none, .none, .none, .dec true, .none, .none, .none, .none, .dec true] ?_ ?_
        · apply prop_of ?_ hq
          kernel_rfl
        refine XS.then ?_
        refine TS.ret ?_
        obtain rfl : (y_4.2.2.2.2.2 == y_5.2.2.2.2.2) = r := Option.some.inj h
        exact XS.fin [] ((True) ∧ (True)) (by kernel_rfl) ⟨trivial, trivial⟩
      · have hq : (True) ∧ ((True) ∧ ((True) ∧ (((True) ∧ (y_2.1 == y_3.1) = true) ∧ ((True) ∧ ((True) ∧ ((True) ∧ ((True) ∧ (((True) ∧ (y_2.2 == y_3.2) = true) ∧ ((True) ∧ ((True) ∧ ((True) ∧ ((True) ∧ (((True) ∧ (Sh.beq (.st (.pair (.int .i64) (.pair (.int .i64) (.pair .bool (.pair (.int .i64) .str))))) (y_4.1, (y_4.2.1, (y_4.2.2.1, (y_4.2.2.2.1, y_4.2.2.2.2.1)))) (y_5.1, (y_5.2.1, (y_5.2.2.1, (y_5.2.2.2.1, y_5.2.2.2.2.1))))) = false) ∧ ((True) ∧ ((True) ∧ (True)))))))))))))))) := ⟨trivial, ⟨trivial, ⟨trivial, ⟨⟨trivial, c5⟩, ⟨trivial, ⟨trivial, ⟨trivial, ⟨trivial, ⟨⟨trivial, c7⟩, ⟨trivial, ⟨trivial, ⟨trivial, ⟨trivial, ⟨⟨trivial, c10⟩, ⟨trivial, ⟨trivial, trivial⟩⟩⟩⟩⟩⟩⟩⟩⟩⟩⟩⟩⟩⟩⟩⟩
        refine TS.reg [.none, .none, .none, .dec true, .none, .none, .none, .none, .dec true, .none, .none, .none, .none, .dec false] ?_ ?_
        · apply prop_of ?_ hq
          kernel_rfl
        refine XS.then ?_
        refine TS.ret ?_
        obtain rfl : false = r := Option.some.inj h
        exact XS.fin [] ((True) ∧ (True)) (by kernel_rfl) ⟨trivial, trivial⟩
    · have hq : (True) ∧ ((True) ∧ ((True) ∧ (((True) ∧ (y_2.1 == y_3.1) = true) ∧ ((True) ∧ ((True) ∧ ((True) ∧ ((True) ∧ (((True) ∧ (y_2.2 == y_3.2) = false) ∧ ((True) ∧ ((True) ∧ ((True) ∧ ((True) ∧ (True))))))))))))) := ⟨trivial, ⟨trivial, ⟨trivial, ⟨⟨trivial, c5⟩, ⟨trivial, ⟨trivial, ⟨trivial, ⟨trivial, ⟨⟨trivial, c8⟩, ⟨trivial, ⟨trivial, ⟨trivial, ⟨trivial, trivial⟩⟩⟩⟩⟩⟩⟩⟩⟩⟩⟩⟩⟩
      refine TS.reg [.none, .none, .none, .dec true, .none, .none, .none, .none, .dec false] ?_ ?_
      · apply prop_of ?_ hq
        kernel_rfl
      refine XS.then ?_
      refine TS.ret ?_
      obtain rfl : false = r := Option.some.inj h
      exact XS.fin [] ((True) ∧ (True)) (by kernel_rfl) ⟨trivial, trivial⟩
  · have hq : (True) ∧ ((True) ∧ ((True) ∧ (((True) ∧ (y_2.1 == y_3.1) = false) ∧ ((True) ∧ ((True) ∧ ((True) ∧ ((True) ∧ ((True) ∧ ((True) ∧ (True)))))))))) := ⟨trivial, ⟨trivial, ⟨trivial, ⟨⟨trivial, c6⟩, ⟨trivial, ⟨trivial, ⟨trivial, ⟨trivial, ⟨trivial, ⟨trivial, trivial⟩⟩⟩⟩⟩⟩⟩⟩⟩⟩
    refine TS.reg [.none, .none, .none, .dec false] ?_ ?_
    · apply prop_of ?_ hq
      kernel_rfl
    refine XS.then ?_
    refine TS.ret ?_
    obtain rfl : false = r := Option.some.inj h
    exact XS.fin [] ((True) ∧ (True)) (by kernel_rfl) ⟨trivial, trivial⟩
end Go.Proofs.Ytmcjcioifgaihaa
