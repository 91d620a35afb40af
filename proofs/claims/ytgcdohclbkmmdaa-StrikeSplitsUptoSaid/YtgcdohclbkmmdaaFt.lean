/- Functions of the program, as functions of values. -/
import Derived.Test.YtgcdohclbkmmdaaAm28
import Derived.Test.YtgcdohclbkmmdaaShelf
import Derived.Test.YtgcdohclbkmmdaaChecked
namespace Go.Proofs.Ytgcdohclbkmmdaa
open Go Go.RowKit
set_option linter.unusedVariables false
set_option maxRecDepth 100000

/-! plugtree/strike.Split -/
def F60_l2 (n : Nat) (size : Int) (k60_2 : ((List UInt8) × (List (List UInt8))) → Option (Int × (List (List UInt8)))) : ((List UInt8) × (List (List UInt8))) → Option (Int × (List (List UInt8)))
  | (text_2, m0) => (bif (decide (((text_2.length : Nat) : Int) ≥ size)) then (bif subB text_2.length none (some size) then (bif (decide (m0.length + [(text_2.take size.toNat)].length ≤ 17179869184)) then (bif subB text_2.length (some size) none then (k60_2 ((text_2.drop size.toNat), (m0 ++ [(text_2.take size.toNat)]))) else none) else none) else none) else (bif (decide (m0.length + [text_2].length ≤ 17179869184)) then (some ((0 : Int), (m0 ++ [text_2]))) else none))
def F60 (n : Nat) (text : List UInt8) (size : Int) : Option (Int × (List (List UInt8))) := (bif (decide (size < (1 : Int))) then (some ((1 : Int), ([] : List (List UInt8)))) else (bif (decide (size > (64 : Int))) then (some ((1 : Int), ([] : List (List UInt8)))) else (bif (decide (((text.length : Nat) : Int) > (4096 : Int))) then (some ((2 : Int), ([] : List (List UInt8)))) else (loopF (F60_l2 n size) n (text, ([] : List (List UInt8)))))))
theorem F60_ok (n : Nat) (text : List UInt8) (size : Int) (r : Int × (List (List UInt8))) (h : F60 n text size = some r) : PureC Try.prog 60 [(.str text), (.int .i64 size)] (.tup (.cons (.row 0) (.cons (.int .i64 r.1) .nil))) [(.row 9 .str r.2)] := by
  refine PureC.mkS Try.func60 rfl rfl ?_
  intro w0 fz0 hfz
  replace h : (bif (decide (size < (1 : Int))) then (some ((1 : Int), ([] : List (List UInt8)))) else (bif (decide (size > (64 : Int))) then (some ((1 : Int), ([] : List (List UInt8)))) else (bif (decide (((text.length : Nat) : Int) > (4096 : Int))) then (some ((2 : Int), ([] : List (List UInt8)))) else (loopF (F60_l2 n size) n (text, ([] : List (List UInt8))))))) = some r := h
  refine TS.seq ?_
  have hq : (True) ∧ ((True) ∧ (True)) := ⟨trivial, ⟨trivial, trivial⟩⟩
  refine TS.reg [] ?_ ?_
  · apply prop_of ?_ hq
    kernel_rfl
  refine XS.then ?_
  refine TS.seq ?_
  refine TS.block ?_
  refine TS.seq ?_
  rcases bif_some h with ⟨c1, h⟩ | ⟨c2, h⟩
  · have hq : (True) ∧ ((True) ∧ (((True) ∧ (decide (size < (1 : Int))) = true) ∧ ((True) ∧ ((True) ∧ (True))))) := ⟨trivial, ⟨trivial, ⟨⟨trivial, c1⟩, ⟨trivial, ⟨trivial, trivial⟩⟩⟩⟩⟩
    refine TS.reg [.none, .none, .dec true] ?_ ?_
    · apply prop_of ?_ hq
      kernel_rfl
    refine XS.then ?_
    refine TS.yes ?_ ?_
    · kernel_rfl
    refine TS.seq ?_
    have hq : (True) ∧ ((True) ∧ (True)) := ⟨trivial, ⟨trivial, trivial⟩⟩
    refine TS.reg [] ?_ ?_
    · apply prop_of ?_ hq
      kernel_rfl
    refine XS.then ?_
    refine TS.ret ?_
    refine XS.blockRet ?_
    refine XS.passR ?_
    obtain rfl : ((1 : Int), ([] : List (List UInt8))) = r := Option.some.inj h
    refine XS.wk (.row false 4 [] 9 .str) ?_
    exact XS.fin [0] ((True) ∧ ((True) ∧ (True))) (by kernel_rfl) ⟨trivial, ⟨trivial, trivial⟩⟩
  · have hq : (True) ∧ ((True) ∧ (((True) ∧ (decide (size < (1 : Int))) = false) ∧ ((True) ∧ ((True) ∧ ((True) ∧ ((True) ∧ (True))))))) := ⟨trivial, ⟨trivial, ⟨⟨trivial, c2⟩, ⟨trivial, ⟨trivial, ⟨trivial, ⟨trivial, trivial⟩⟩⟩⟩⟩⟩⟩
    refine TS.reg [.none, .none, .dec false] ?_ ?_
    · apply prop_of ?_ hq
      kernel_rfl
    refine XS.then ?_
    rcases bif_some h with ⟨c3, h⟩ | ⟨c4, h⟩
    · refine TS.cond (decide (size > (64 : Int))) ?_ (fun e => ?_) (fun e => by rw [c3] at e; cases e)
      · kernel_rfl
      refine TS.seq ?_
      have hq : (True) ∧ ((True) ∧ (True)) := ⟨trivial, ⟨trivial, trivial⟩⟩
      refine TS.reg [] ?_ ?_
      · apply prop_of ?_ hq
        kernel_rfl
      refine XS.then ?_
      refine TS.ret ?_
      refine XS.blockRet ?_
      refine XS.passR ?_
      obtain rfl : ((1 : Int), ([] : List (List UInt8))) = r := Option.some.inj h
      refine XS.wk (.row false 4 [] 9 .str) ?_
      exact XS.fin [0] ((True) ∧ ((True) ∧ (True))) (by kernel_rfl) ⟨trivial, ⟨trivial, trivial⟩⟩
    · refine TS.cond (decide (size > (64 : Int))) ?_ (fun e => by rw [c4] at e; cases e) (fun e => ?_)
      · kernel_rfl
      refine TS.seq ?_
      have hq : (True) ∧ ((True) ∧ ((True) ∧ ((True) ∧ (True)))) := ⟨trivial, ⟨trivial, ⟨trivial, ⟨trivial, trivial⟩⟩⟩⟩
      refine TS.reg [] ?_ ?_
      · apply prop_of ?_ hq
        kernel_rfl
      refine XS.then ?_
      rcases bif_some h with ⟨c5, h⟩ | ⟨c6, h⟩
      · refine TS.cond (decide (((text.length : Nat) : Int) > (4096 : Int))) ?_ (fun e => ?_) (fun e => by rw [c5] at e; cases e)
        · kernel_rfl
        refine TS.seq ?_
        have hq : (True) ∧ ((True) ∧ (True)) := ⟨trivial, ⟨trivial, trivial⟩⟩
        refine TS.reg [] ?_ ?_
        · apply prop_of ?_ hq
          kernel_rfl
        refine XS.then ?_
        refine TS.ret ?_
        refine XS.blockRet ?_
        refine XS.passR ?_
        obtain rfl : ((2 : Int), ([] : List (List UInt8))) = r := Option.some.inj h
        refine XS.wk (.row false 4 [] 9 .str) ?_
        exact XS.fin [0] ((True) ∧ ((True) ∧ (True))) (by kernel_rfl) ⟨trivial, ⟨trivial, trivial⟩⟩
      · refine TS.cond (decide (((text.length : Nat) : Int) > (4096 : Int))) ?_ (fun e => by rw [c6] at e; cases e) (fun e => ?_)
        · kernel_rfl
        refine TS.skip ?_
        refine XS.blockEnd ?_
        refine XS.then ?_
        refine TS.seq ?_
        have hq : (True) ∧ (True) := ⟨trivial, trivial⟩
        refine TS.reg [] ?_ ?_
        · apply prop_of ?_ hq
          kernel_rfl
        refine XS.then ?_
        refine TS.seq ?_
        refine TS.block ?_
        refine TS.wk (.row false 6 [] 9 .str) ?_
        refine TS.reLoop [0] (mkMask 35 [0, 1, 6]) (D := (List UInt8) × (List (List UInt8))) (fun d => match d with | (text_2, m0) => (mkTs 35 [(0, (.str text_2)), (1, (.int .i64 size)), (6, (.row 0))], [(.row 9 .str m0)])) (fun n' d => loopF (F60_l2 n size) n' d = some r) n (text, ([] : List (List UInt8))) h ?_ (fun d => loopF_zero _ d r) ?_
        · kernel_rfl
        · rintro n2 ⟨text_2, m0⟩ h
          replace h : (bif (decide (((text_2.length : Nat) : Int) ≥ size)) then (bif subB text_2.length none (some size) then (bif (decide (m0.length + [(text_2.take size.toNat)].length ≤ 17179869184)) then (bif subB text_2.length (some size) none then ((loopF (F60_l2 n size) n2) ((text_2.drop size.toNat), (m0 ++ [(text_2.take size.toNat)]))) else none) else none) else none) else (bif (decide (m0.length + [text_2].length ≤ 17179869184)) then (some ((0 : Int), (m0 ++ [text_2]))) else none)) = some r := h
          refine TS.seq ?_
          refine TS.seq ?_
          have hq : (True) ∧ ((True) ∧ ((True) ∧ ((True) ∧ (True)))) := ⟨trivial, ⟨trivial, ⟨trivial, ⟨trivial, trivial⟩⟩⟩⟩
          refine TS.reg [] ?_ ?_
          · apply prop_of ?_ hq
            kernel_rfl
          refine XS.then ?_
          rcases bif_some h with ⟨c7, h⟩ | ⟨c8, h⟩
          · refine TS.cond (decide (((text_2.length : Nat) : Int) ≥ size)) ?_ (fun e => ?_) (fun e => by rw [c7] at e; cases e)
            · kernel_rfl
            refine TS.skip ?_
            refine XS.then ?_
            refine TS.block ?_
            refine TS.seq ?_
            obtain ⟨t9, h⟩ := test_some h
            obtain ⟨t10, h⟩ := test_some h
            have hq : (True) ∧ ((True) ∧ ((True) ∧ ((subC text_2.length none (some size)) ∧ (((0 < 1 ∧ True) ∧ (True)) ∧ ((m0.length + [(text_2.take size.toNat)].length ≤ 17179869184) ∧ ((True) ∧ (True))))))) := ⟨trivial, ⟨trivial, ⟨trivial, ⟨subB_ok t9, ⟨⟨⟨by decide, trivial⟩, trivial⟩, ⟨of_decide_eq_true t10, ⟨trivial, trivial⟩⟩⟩⟩⟩⟩⟩
            refine TS.reg [] ?_ ?_
            · apply prop_of ?_ hq
              kernel_rfl
            refine XS.then ?_
            obtain ⟨t11, h⟩ := test_some h
            have hq : (True) ∧ ((True) ∧ ((subC text_2.length (some size) none) ∧ ((True) ∧ (True)))) := ⟨trivial, ⟨trivial, ⟨subB_ok t11, ⟨trivial, trivial⟩⟩⟩⟩
            refine TS.reg [] ?_ ?_
            · apply prop_of ?_ hq
              kernel_rfl
            refine XS.blockEnd ?_
            refine XS.reAny [2] (mkMask 35 [0, 1, 6]) ((text_2.drop size.toNat), (m0 ++ [(text_2.take size.toNat)])) h ?_
            kernel_rfl
          · refine TS.cond (decide (((text_2.length : Nat) : Int) ≥ size)) ?_ (fun e => by rw [c8] at e; cases e) (fun e => ?_)
            · kernel_rfl
            refine TS.exit ?_
            refine XS.passE ?_
            refine XS.passE ?_
            refine XS.out ?_
            refine XS.then ?_
            refine TS.seq ?_
            obtain ⟨t12, h⟩ := test_some h
            have hq : (True) ∧ ((True) ∧ (((0 < 1 ∧ True) ∧ (True)) ∧ ((m0.length + [text_2].length ≤ 17179869184) ∧ ((True) ∧ ((True) ∧ (True)))))) := ⟨trivial, ⟨trivial, ⟨⟨⟨by decide, trivial⟩, trivial⟩, ⟨of_decide_eq_true t12, ⟨trivial, ⟨trivial, trivial⟩⟩⟩⟩⟩⟩
            refine TS.reg [] ?_ ?_
            · apply prop_of ?_ hq
              kernel_rfl
            refine XS.then ?_
            refine TS.ret ?_
            obtain rfl : ((0 : Int), (m0 ++ [text_2])) = r := Option.some.inj h
            exact XS.fin [2] ((True) ∧ ((True) ∧ (True))) (by kernel_rfl) ⟨trivial, ⟨trivial, trivial⟩⟩

/-! plugtree/plugref.Between -/
def F16 (n : Nat) (vn : Int) (low : Int) (high : Int) : Option Bool := (bif (decide (low ≤ vn)) then (some (decide (vn ≤ high))) else (some false))
theorem F16_ok (n : Nat) (vn : Int) (low : Int) (high : Int) (r : Bool) (h : F16 n vn low high = some r) : PureC Try.prog 16 [(.int .i64 vn), (.int .i64 low), (.int .i64 high)] (.bool r) [] := by
  refine PureC.mkS Try.func16 rfl rfl ?_
  intro w0 fz0 hfz
  replace h : (bif (decide (low ≤ vn)) then (some (decide (vn ≤ high))) else (some false)) = some r := h
  refine TS.seq ?_
  have hq : (True) ∧ (True) := ⟨trivial, trivial⟩
  refine TS.reg [] ?_ ?_
  · apply prop_of ?_ hq
    kernel_rfl
  refine XS.then ?_
  refine TS.seq ?_
  rcases bif_some h with ⟨c1, h⟩ | ⟨c2, h⟩
  · have hq : (True) ∧ ((True) ∧ ((True) ∧ (((True) ∧ (decide (low ≤ vn)) = true) ∧ ((True) ∧ ((True) ∧ ((True) ∧ ((True) ∧ ((True) ∧ (True))))))))) := ⟨trivial, ⟨trivial, ⟨trivial, ⟨⟨trivial, c1⟩, ⟨trivial, ⟨trivial, ⟨trivial, ⟨trivial, ⟨trivial, trivial⟩⟩⟩⟩⟩⟩⟩⟩⟩
    refine TS.reg [.none, .none, .none, .dec true] ?_ ?_
    · apply prop_of ?_ hq
      kernel_rfl
    refine XS.then ?_
    refine TS.ret ?_
    obtain rfl : (decide (vn ≤ high)) = r := Option.some.inj h
    exact XS.fin [] ((True) ∧ (True)) (by kernel_rfl) ⟨trivial, trivial⟩
  · have hq : (True) ∧ ((True) ∧ ((True) ∧ (((True) ∧ (decide (low ≤ vn)) = false) ∧ ((True) ∧ ((True) ∧ (True)))))) := ⟨trivial, ⟨trivial, ⟨trivial, ⟨⟨trivial, c2⟩, ⟨trivial, ⟨trivial, trivial⟩⟩⟩⟩⟩⟩
    refine TS.reg [.none, .none, .none, .dec false] ?_ ?_
    · apply prop_of ?_ hq
      kernel_rfl
    refine XS.then ?_
    refine TS.ret ?_
    obtain rfl : false = r := Option.some.inj h
    exact XS.fin [] ((True) ∧ (True)) (by kernel_rfl) ⟨trivial, trivial⟩

/-! plugtree/plugref.Pieces -/
def F61_l2 (n : Nat) (text : List UInt8) (size : Int) (k61_2 : (Int × (List (List UInt8))) → Option (Int × (List (List UInt8)))) : (Int × (List (List UInt8))) → Option (Int × (List (List UInt8)))
  | (x, m0) => (bif (decide (x < (((List.replicate (IntKind.wrap .i64 ((IntKind.wrap .i64 (((text.length : Nat) : Int).tdiv size)) + (1 : Int))).toNat ([] : List UInt8)).length : Nat) : Int))) then (bif subB text.length (some (IntKind.wrap .i64 (x * size))) (some (if (IntKind.wrap .i64 ((IntKind.wrap .i64 (x + (1 : Int))) * size)) < ((text.length : Nat) : Int) then (IntKind.wrap .i64 ((IntKind.wrap .i64 (x + (1 : Int))) * size)) else ((text.length : Nat) : Int))) then (bif inb x m0.length then (k61_2 ((IntKind.wrap .i64 (x + (1 : Int))), (m0.set x.toNat ((text.take (if (IntKind.wrap .i64 ((IntKind.wrap .i64 (x + (1 : Int))) * size)) < ((text.length : Nat) : Int) then (IntKind.wrap .i64 ((IntKind.wrap .i64 (x + (1 : Int))) * size)) else ((text.length : Nat) : Int)).toNat).drop (IntKind.wrap .i64 (x * size)).toNat)))) else none) else none) else (some ((0 : Int), m0)))
def F61 (n : Nat) (text : List UInt8) (size : Int) : Option (Int × (List (List UInt8))) := ((F16 n size (1 : Int) (64 : Int)).bind fun y_3 => (bif (!y_3) then (some ((1 : Int), ([] : List (List UInt8)))) else (bif (decide (((text.length : Nat) : Int) > (4096 : Int))) then (some ((2 : Int), ([] : List (List UInt8)))) else (bif (size != 0) then (bif (decide (0 ≤ (IntKind.wrap .i64 ((IntKind.wrap .i64 (((text.length : Nat) : Int).tdiv size)) + (1 : Int))) ∧ (IntKind.wrap .i64 ((IntKind.wrap .i64 (((text.length : Nat) : Int).tdiv size)) + (1 : Int))) ≤ 17179869184)) then (loopF (F61_l2 n text size) n ((0 : Int), (List.replicate (IntKind.wrap .i64 ((IntKind.wrap .i64 (((text.length : Nat) : Int).tdiv size)) + (1 : Int))).toNat ([] : List UInt8)))) else none) else none))))
theorem F61_ok (n : Nat) (text : List UInt8) (size : Int) (r : Int × (List (List UInt8))) (h : F61 n text size = some r) : PureC Try.prog 61 [(.str text), (.int .i64 size)] (.tup (.cons (.row 0) (.cons (.int .i64 r.1) .nil))) [(.row 9 .str r.2)] := by
  refine PureC.mkS Try.func61 rfl rfl ?_
  intro w0 fz0 hfz
  replace h : ((F16 n size (1 : Int) (64 : Int)).bind fun y_3 => (bif (!y_3) then (some ((1 : Int), ([] : List (List UInt8)))) else (bif (decide (((text.length : Nat) : Int) > (4096 : Int))) then (some ((2 : Int), ([] : List (List UInt8)))) else (bif (size != 0) then (bif (decide (0 ≤ (IntKind.wrap .i64 ((IntKind.wrap .i64 (((text.length : Nat) : Int).tdiv size)) + (1 : Int))) ∧ (IntKind.wrap .i64 ((IntKind.wrap .i64 (((text.length : Nat) : Int).tdiv size)) + (1 : Int))) ≤ 17179869184)) then (loopF (F61_l2 n text size) n ((0 : Int), (List.replicate (IntKind.wrap .i64 ((IntKind.wrap .i64 (((text.length : Nat) : Int).tdiv size)) + (1 : Int))).toNat ([] : List UInt8)))) else none) else none)))) = some r := h
  refine TS.seq ?_
  have hq : (True) ∧ ((True) ∧ (True)) := ⟨trivial, ⟨trivial, trivial⟩⟩
  refine TS.reg [] ?_ ?_
  · apply prop_of ?_ hq
    kernel_rfl
  refine XS.then ?_
  refine TS.seq ?_
  refine TS.seq ?_
  obtain ⟨y_3, hx1, h⟩ := bind_some' h
  have hq : (True) ∧ ((PureC Try.prog 16 [(.int .i64 size), (.int .i64 (1 : Int)), (.int .i64 (64 : Int))] (.bool y_3) []) ∧ ((True) ∧ (True))) := ⟨trivial, ⟨F16_ok n size (1 : Int) (64 : Int) y_3 hx1, ⟨trivial, trivial⟩⟩⟩
  refine TS.reg [.none, (.call (.bool y_3) [])] ?_ ?_
  · apply prop_of ?_ hq
    kernel_rfl
  refine XS.then ?_
  rcases bif_some h with ⟨c2, h⟩ | ⟨c3, h⟩
  · refine TS.cond (!y_3) ?_ (fun e => ?_) (fun e => by rw [c2] at e; cases e)
    · kernel_rfl
    refine TS.seq ?_
    have hq : (True) ∧ ((True) ∧ (True)) := ⟨trivial, ⟨trivial, trivial⟩⟩
    refine TS.reg [] ?_ ?_
    · apply prop_of ?_ hq
      kernel_rfl
    refine XS.then ?_
    refine TS.ret ?_
    refine XS.passR ?_
    obtain rfl : ((1 : Int), ([] : List (List UInt8))) = r := Option.some.inj h
    refine XS.wk (.row false 4 [] 9 .str) ?_
    exact XS.fin [0] ((True) ∧ ((True) ∧ (True))) (by kernel_rfl) ⟨trivial, ⟨trivial, trivial⟩⟩
  · refine TS.cond (!y_3) ?_ (fun e => by rw [c3] at e; cases e) (fun e => ?_)
    · kernel_rfl
    refine TS.skip ?_
    refine XS.then ?_
    refine TS.seq ?_
    refine TS.seq ?_
    have hq : (True) ∧ ((True) ∧ ((True) ∧ (True))) := ⟨trivial, ⟨trivial, ⟨trivial, trivial⟩⟩⟩
    refine TS.reg [] ?_ ?_
    · apply prop_of ?_ hq
      kernel_rfl
    refine XS.then ?_
    rcases bif_some h with ⟨c4, h⟩ | ⟨c5, h⟩
    · refine TS.cond (decide (((text.length : Nat) : Int) > (4096 : Int))) ?_ (fun e => ?_) (fun e => by rw [c4] at e; cases e)
      · kernel_rfl
      refine TS.seq ?_
      have hq : (True) ∧ ((True) ∧ (True)) := ⟨trivial, ⟨trivial, trivial⟩⟩
      refine TS.reg [] ?_ ?_
      · apply prop_of ?_ hq
        kernel_rfl
      refine XS.then ?_
      refine TS.ret ?_
      refine XS.passR ?_
      obtain rfl : ((2 : Int), ([] : List (List UInt8))) = r := Option.some.inj h
      refine XS.wk (.row false 4 [] 9 .str) ?_
      exact XS.fin [0] ((True) ∧ ((True) ∧ (True))) (by kernel_rfl) ⟨trivial, ⟨trivial, trivial⟩⟩
    · refine TS.cond (decide (((text.length : Nat) : Int) > (4096 : Int))) ?_ (fun e => by rw [c5] at e; cases e) (fun e => ?_)
      · kernel_rfl
      refine TS.skip ?_
      refine XS.then ?_
      refine TS.seq ?_
      obtain ⟨t6, h⟩ := test_some h
      obtain ⟨t7, h⟩ := test_some h
      have hq : (True) ∧ ((True) ∧ ((True) ∧ ((size ≠ 0) ∧ ((True) ∧ (((IntKind.wrap .i64 ((IntKind.wrap .i64 (((text.length : Nat) : Int).tdiv size)) + (1 : Int))) = (IntKind.wrap .i64 ((IntKind.wrap .i64 (((text.length : Nat) : Int).tdiv size)) + (1 : Int))) ∧ (0 ≤ (IntKind.wrap .i64 ((IntKind.wrap .i64 (((text.length : Nat) : Int).tdiv size)) + (1 : Int))) ∧ (IntKind.wrap .i64 ((IntKind.wrap .i64 (((text.length : Nat) : Int).tdiv size)) + (1 : Int))) ≤ 17179869184)) ∧ ((True) ∧ (True))))))) := ⟨trivial, ⟨trivial, ⟨trivial, ⟨bne_ok t6, ⟨trivial, ⟨⟨rfl, of_decide_eq_true t7⟩, ⟨trivial, trivial⟩⟩⟩⟩⟩⟩⟩
      refine TS.reg [] ?_ ?_
      · apply prop_of ?_ hq
        kernel_rfl
      refine XS.then ?_
      refine TS.seq ?_
      refine TS.seq ?_
      have hq : (True) ∧ ((True) ∧ ((True) ∧ (True))) := ⟨trivial, ⟨trivial, ⟨trivial, trivial⟩⟩⟩
      refine TS.reg [] ?_ ?_
      · apply prop_of ?_ hq
        kernel_rfl
      refine XS.then ?_
      refine TS.block ?_
      refine TS.reLoop [0] (mkMask 42 [0, 1, 6, 21, 22]) (D := Int × (List (List UInt8))) (fun d => match d with | (x, m0) => (mkTs 42 [(0, (.str text)), (1, (.int .i64 size)), (6, (.row 0)), (21, (.int .i64 (((List.replicate (IntKind.wrap .i64 ((IntKind.wrap .i64 (((text.length : Nat) : Int).tdiv size)) + (1 : Int))).toNat ([] : List UInt8)).length : Nat) : Int))), (22, (.int .i64 x))], [(.row 9 .str m0)])) (fun n' d => loopF (F61_l2 n text size) n' d = some r) n ((0 : Int), (List.replicate (IntKind.wrap .i64 ((IntKind.wrap .i64 (((text.length : Nat) : Int).tdiv size)) + (1 : Int))).toNat ([] : List UInt8))) h ?_ (fun d => loopF_zero _ d r) ?_
      · kernel_rfl
      · rintro n2 ⟨x, m0⟩ h
        replace h : (bif (decide (x < (((List.replicate (IntKind.wrap .i64 ((IntKind.wrap .i64 (((text.length : Nat) : Int).tdiv size)) + (1 : Int))).toNat ([] : List UInt8)).length : Nat) : Int))) then (bif subB text.length (some (IntKind.wrap .i64 (x * size))) (some (if (IntKind.wrap .i64 ((IntKind.wrap .i64 (x + (1 : Int))) * size)) < ((text.length : Nat) : Int) then (IntKind.wrap .i64 ((IntKind.wrap .i64 (x + (1 : Int))) * size)) else ((text.length : Nat) : Int))) then (bif inb x m0.length then ((loopF (F61_l2 n text size) n2) ((IntKind.wrap .i64 (x + (1 : Int))), (m0.set x.toNat ((text.take (if (IntKind.wrap .i64 ((IntKind.wrap .i64 (x + (1 : Int))) * size)) < ((text.length : Nat) : Int) then (IntKind.wrap .i64 ((IntKind.wrap .i64 (x + (1 : Int))) * size)) else ((text.length : Nat) : Int)).toNat).drop (IntKind.wrap .i64 (x * size)).toNat)))) else none) else none) else (some ((0 : Int), m0))) = some r := h
        refine TS.seq ?_
        have hq : (True) ∧ (True) := ⟨trivial, trivial⟩
        refine TS.reg [] ?_ ?_
        · apply prop_of ?_ hq
          kernel_rfl
        refine XS.then ?_
        refine TS.seq ?_
        rcases bif_some h with ⟨c8, h⟩ | ⟨c9, h⟩
        · refine TS.cond (decide (x < (((List.replicate (IntKind.wrap .i64 ((IntKind.wrap .i64 (((text.length : Nat) : Int).tdiv size)) + (1 : Int))).toNat ([] : List UInt8)).length : Nat) : Int))) ?_ (fun e => ?_) (fun e => by rw [c8] at e; cases e)
          · kernel_rfl
          refine TS.skip ?_
          refine XS.then ?_
          refine TS.seq ?_
          refine TS.block ?_
          refine TS.seq ?_
          have hq : (True) ∧ ((True) ∧ (True)) := ⟨trivial, ⟨trivial, trivial⟩⟩
          refine TS.reg [] ?_ ?_
          · apply prop_of ?_ hq
            kernel_rfl
          refine XS.then ?_
          obtain ⟨t10, h⟩ := test_some h
          obtain ⟨t11, h⟩ := test_some h
          have hq : (True) ∧ ((True) ∧ ((True) ∧ ((True) ∧ ((True) ∧ ((True) ∧ ((True) ∧ ((True) ∧ ((True) ∧ ((True) ∧ ((True) ∧ ((True) ∧ ((True) ∧ ((subC text.length (some (IntKind.wrap .i64 (x * size))) (some (if (IntKind.wrap .i64 ((IntKind.wrap .i64 (x + (1 : Int))) * size)) < ((text.length : Nat) : Int) then (IntKind.wrap .i64 ((IntKind.wrap .i64 (x + (1 : Int))) * size)) else ((text.length : Nat) : Int)))) ∧ ((inR x m0.length) ∧ (((x.toNat < m0.length ∧ (True)) ∧ m0.length = m0.length) ∧ (True)))))))))))))))) := ⟨trivial, ⟨trivial, ⟨trivial, ⟨trivial, ⟨trivial, ⟨trivial, ⟨trivial, ⟨trivial, ⟨trivial, ⟨trivial, ⟨trivial, ⟨trivial, ⟨trivial, ⟨subB_ok t10, ⟨inb_ok t11, ⟨⟨⟨inR_lt (inb_ok t11), trivial⟩, rfl⟩, trivial⟩⟩⟩⟩⟩⟩⟩⟩⟩⟩⟩⟩⟩⟩⟩⟩
          refine TS.reg [] ?_ ?_
          · apply prop_of ?_ hq
            kernel_rfl
          refine XS.blockEnd ?_
          refine XS.then ?_
          have hq : (True) ∧ ((True) ∧ (True)) := ⟨trivial, ⟨trivial, trivial⟩⟩
          refine TS.reg [] ?_ ?_
          · apply prop_of ?_ hq
            kernel_rfl
          refine XS.reAny [0] (mkMask 42 [0, 1, 6, 21, 22]) ((IntKind.wrap .i64 (x + (1 : Int))), (m0.set x.toNat ((text.take (if (IntKind.wrap .i64 ((IntKind.wrap .i64 (x + (1 : Int))) * size)) < ((text.length : Nat) : Int) then (IntKind.wrap .i64 ((IntKind.wrap .i64 (x + (1 : Int))) * size)) else ((text.length : Nat) : Int)).toNat).drop (IntKind.wrap .i64 (x * size)).toNat))) h ?_
          kernel_rfl
        · refine TS.cond (decide (x < (((List.replicate (IntKind.wrap .i64 ((IntKind.wrap .i64 (((text.length : Nat) : Int).tdiv size)) + (1 : Int))).toNat ([] : List UInt8)).length : Nat) : Int))) ?_ (fun e => by rw [c9] at e; cases e) (fun e => ?_)
          · kernel_rfl
          refine TS.exit ?_
          refine XS.passE ?_
          refine XS.passE ?_
          refine XS.out ?_
          refine XS.then ?_
          refine TS.seq ?_
          have hq : (True) ∧ ((True) ∧ ((True) ∧ (True))) := ⟨trivial, ⟨trivial, ⟨trivial, trivial⟩⟩⟩
          refine TS.reg [] ?_ ?_
          · apply prop_of ?_ hq
            kernel_rfl
          refine XS.then ?_
          refine TS.ret ?_
          obtain rfl : ((0 : Int), m0) = r := Option.some.inj h
          exact XS.fin [0] ((True) ∧ ((True) ∧ (True))) (by kernel_rfl) ⟨trivial, ⟨trivial, trivial⟩⟩

/-! strings.Join -/
def F110 (n : Nat) (elems : List (List UInt8)) (sep : List UInt8) : Option (List UInt8) := bif decide ((Lib.join elems sep).length ≤ 140737488355328 ∧ elems.length ≤ 140737488355328) then some (Lib.join elems sep) else none
theorem F110_ok (n : Nat) (elems : List (List UInt8)) (sep : List UInt8) (r : List UInt8) (h : F110 n elems sep = some r) : PureC Try.prog 110 [(.sl .str elems), (.str sep)] (.str r) [] := by
  unfold F110 at h
  obtain ⟨c, h⟩ := test_some h
  obtain rfl := Option.some.inj h
  exact PureC.join elems sep (of_decide_eq_true c) Try.strings_Join_none Try.strings_Join

/-! plugtree/strike.Join -/
def F62_l8 (n : Nat) (pieces : List (List UInt8)) (size : Int) (k62_8 : Int → Option ((List UInt8) × Int)) : Int → Option ((List UInt8) × Int)
  | x_2 => (bif (decide (x_2 < ((pieces.length : Nat) : Int))) then (bif inb x_2 pieces.length then (bif (decide (x_2 < (IntKind.wrap .i64 (((pieces.length : Nat) : Int) - (1 : Int))))) then (bif ((((pieces.getD x_2.toNat ([] : List UInt8)).length : Nat) : Int) != size) then (some (([] : List UInt8), (4 : Int))) else (bif (x_2 == (IntKind.wrap .i64 (((pieces.length : Nat) : Int) - (1 : Int)))) then (bif (decide ((((pieces.getD x_2.toNat ([] : List UInt8)).length : Nat) : Int) ≥ size)) then (some (([] : List UInt8), (4 : Int))) else (k62_8 (IntKind.wrap .i64 (x_2 + (1 : Int))))) else (k62_8 (IntKind.wrap .i64 (x_2 + (1 : Int)))))) else (bif (x_2 == (IntKind.wrap .i64 (((pieces.length : Nat) : Int) - (1 : Int)))) then (bif (decide ((((pieces.getD x_2.toNat ([] : List UInt8)).length : Nat) : Int) ≥ size)) then (some (([] : List UInt8), (4 : Int))) else (k62_8 (IntKind.wrap .i64 (x_2 + (1 : Int))))) else (k62_8 (IntKind.wrap .i64 (x_2 + (1 : Int)))))) else none) else ((F110 n pieces ([] : List UInt8)).bind fun y_3 => (some (y_3, (0 : Int)))))
def F62_l7 (n : Nat) (pieces : List (List UInt8)) (size : Int) (k62_7 : (Int × Int) → Option ((List UInt8) × Int)) : (Int × Int) → Option ((List UInt8) × Int)
  | (vn, x) => (bif (decide (x < ((pieces.length : Nat) : Int))) then (bif inb x pieces.length then (k62_7 ((IntKind.wrap .i64 (vn + (((pieces.getD x.toNat ([] : List UInt8)).length : Nat) : Int))), (IntKind.wrap .i64 (x + (1 : Int))))) else none) else (bif (decide (vn > (4096 : Int))) then (some (([] : List UInt8), (2 : Int))) else (bif (((pieces.length : Nat) : Int) == (0 : Int)) then (some (([] : List UInt8), (4 : Int))) else (loopF (F62_l8 n pieces size) n (0 : Int)))))
def F62 (n : Nat) (pieces : List (List UInt8)) (size : Int) : Option ((List UInt8) × Int) := (bif (decide (size < (1 : Int))) then (some (([] : List UInt8), (1 : Int))) else (bif (decide (size > (64 : Int))) then (some (([] : List UInt8), (1 : Int))) else (loopF (F62_l7 n pieces size) n ((0 : Int), (0 : Int)))))
theorem F62_ok (n : Nat) (pieces : List (List UInt8)) (size : Int) (r : (List UInt8) × Int) (h : F62 n pieces size = some r) : PureC Try.prog 62 [(.sl .str pieces), (.int .i64 size)] (.tup (.cons (.str r.1) (.cons (.int .i64 r.2) .nil))) [] := by
  refine PureC.mkS Try.func62 rfl rfl ?_
  intro w0 fz0 hfz
  replace h : (bif (decide (size < (1 : Int))) then (some (([] : List UInt8), (1 : Int))) else (bif (decide (size > (64 : Int))) then (some (([] : List UInt8), (1 : Int))) else (loopF (F62_l7 n pieces size) n ((0 : Int), (0 : Int))))) = some r := h
  refine TS.seq ?_
  have hq : (True) ∧ ((True) ∧ (True)) := ⟨trivial, ⟨trivial, trivial⟩⟩
  refine TS.reg [] ?_ ?_
  · apply prop_of ?_ hq
    kernel_rfl
  refine XS.then ?_
  refine TS.seq ?_
  refine TS.seq ?_
  rcases bif_some h with ⟨c1, h⟩ | ⟨c2, h⟩
  · have hq : (True) ∧ ((True) ∧ (((True) ∧ (decide (size < (1 : Int))) = true) ∧ ((True) ∧ (True)))) := ⟨trivial, ⟨trivial, ⟨⟨trivial, c1⟩, ⟨trivial, trivial⟩⟩⟩⟩
    refine TS.reg [.none, .none, .dec true] ?_ ?_
    · apply prop_of ?_ hq
      kernel_rfl
    refine XS.then ?_
    refine TS.yes ?_ ?_
    · kernel_rfl
    refine TS.seq ?_
    have hq : (True) ∧ ((True) ∧ (True)) := ⟨trivial, ⟨trivial, trivial⟩⟩
    refine TS.reg [] ?_ ?_
    · apply prop_of ?_ hq
      kernel_rfl
    refine XS.then ?_
    refine TS.ret ?_
    refine XS.passR ?_
    obtain rfl : (([] : List UInt8), (1 : Int)) = r := Option.some.inj h
    exact XS.fin [] ((True) ∧ ((True) ∧ (True))) (by kernel_rfl) ⟨trivial, ⟨trivial, trivial⟩⟩
  · have hq : (True) ∧ ((True) ∧ (((True) ∧ (decide (size < (1 : Int))) = false) ∧ ((True) ∧ ((True) ∧ ((True) ∧ (True)))))) := ⟨trivial, ⟨trivial, ⟨⟨trivial, c2⟩, ⟨trivial, ⟨trivial, ⟨trivial, trivial⟩⟩⟩⟩⟩⟩
    refine TS.reg [.none, .none, .dec false] ?_ ?_
    · apply prop_of ?_ hq
      kernel_rfl
    refine XS.then ?_
    rcases bif_some h with ⟨c3, h⟩ | ⟨c4, h⟩
    · refine TS.cond (decide (size > (64 : Int))) ?_ (fun e => ?_) (fun e => by rw [c3] at e; cases e)
      · kernel_rfl
      refine TS.seq ?_
      have hq : (True) ∧ ((True) ∧ (True)) := ⟨trivial, ⟨trivial, trivial⟩⟩
      refine TS.reg [] ?_ ?_
      · apply prop_of ?_ hq
        kernel_rfl
      refine XS.then ?_
      refine TS.ret ?_
      refine XS.passR ?_
      obtain rfl : (([] : List UInt8), (1 : Int)) = r := Option.some.inj h
      exact XS.fin [] ((True) ∧ ((True) ∧ (True))) (by kernel_rfl) ⟨trivial, ⟨trivial, trivial⟩⟩
    · refine TS.cond (decide (size > (64 : Int))) ?_ (fun e => by rw [c4] at e; cases e) (fun e => ?_)
      · kernel_rfl
      refine TS.skip ?_
      refine XS.then ?_
      refine TS.seq ?_
      have hq : (True) ∧ (True) := ⟨trivial, trivial⟩
      refine TS.reg [] ?_ ?_
      · apply prop_of ?_ hq
        kernel_rfl
      refine XS.then ?_
      refine TS.seq ?_
      refine TS.seq ?_
      have hq : (True) ∧ ((True) ∧ ((True) ∧ (True))) := ⟨trivial, ⟨trivial, ⟨trivial, trivial⟩⟩⟩
      refine TS.reg [] ?_ ?_
      · apply prop_of ?_ hq
        kernel_rfl
      refine XS.then ?_
      refine TS.block ?_
      refine TS.reLoop [] (mkMask 69 [0, 1, 6, 18, 19, 20]) (D := Int × Int) (fun d => match d with | (vn, x) => (mkTs 69 [(0, (.sl .str pieces)), (1, (.int .i64 size)), (6, (.int .i64 vn)), (18, (.sl .str pieces)), (19, (.int .i64 ((pieces.length : Nat) : Int))), (20, (.int .i64 x))], [])) (fun n' d => loopF (F62_l7 n pieces size) n' d = some r) n ((0 : Int), (0 : Int)) h ?_ (fun d => loopF_zero _ d r) ?_
      · kernel_rfl
      · rintro n7 ⟨vn, x⟩ h
        replace h : (bif (decide (x < ((pieces.length : Nat) : Int))) then (bif inb x pieces.length then ((loopF (F62_l7 n pieces size) n7) ((IntKind.wrap .i64 (vn + (((pieces.getD x.toNat ([] : List UInt8)).length : Nat) : Int))), (IntKind.wrap .i64 (x + (1 : Int))))) else none) else (bif (decide (vn > (4096 : Int))) then (some (([] : List UInt8), (2 : Int))) else (bif (((pieces.length : Nat) : Int) == (0 : Int)) then (some (([] : List UInt8), (4 : Int))) else (loopF (F62_l8 n pieces size) n (0 : Int))))) = some r := h
        refine TS.seq ?_
        have hq : (True) ∧ (True) := ⟨trivial, trivial⟩
        refine TS.reg [] ?_ ?_
        · apply prop_of ?_ hq
          kernel_rfl
        refine XS.then ?_
        refine TS.seq ?_
        rcases bif_some h with ⟨c5, h⟩ | ⟨c6, h⟩
        · refine TS.cond (decide (x < ((pieces.length : Nat) : Int))) ?_ (fun e => ?_) (fun e => by rw [c5] at e; cases e)
          · kernel_rfl
          refine TS.skip ?_
          refine XS.then ?_
          refine TS.seq ?_
          refine TS.block ?_
          refine TS.seq ?_
          obtain ⟨t7, h⟩ := test_some h
          have hq : (inR x pieces.length) ∧ ((True) ∧ ((True) ∧ (True))) := ⟨inb_ok t7, ⟨trivial, ⟨trivial, trivial⟩⟩⟩
          refine TS.reg [] ?_ ?_
          · apply prop_of ?_ hq
            kernel_rfl
          refine XS.then ?_
          have hq : (True) ∧ ((True) ∧ ((True) ∧ ((True) ∧ ((True) ∧ (True))))) := ⟨trivial, ⟨trivial, ⟨trivial, ⟨trivial, ⟨trivial, trivial⟩⟩⟩⟩⟩
          refine TS.reg [] ?_ ?_
          · apply prop_of ?_ hq
            kernel_rfl
          refine XS.blockEnd ?_
          refine XS.then ?_
          have hq : (True) ∧ ((True) ∧ (True)) := ⟨trivial, ⟨trivial, trivial⟩⟩
          refine TS.reg [] ?_ ?_
          · apply prop_of ?_ hq
            kernel_rfl
          refine XS.reAny [] (mkMask 69 [0, 1, 6, 18, 19, 20]) ((IntKind.wrap .i64 (vn + (((pieces.getD x.toNat ([] : List UInt8)).length : Nat) : Int))), (IntKind.wrap .i64 (x + (1 : Int)))) h ?_
          kernel_rfl
        · refine TS.cond (decide (x < ((pieces.length : Nat) : Int))) ?_ (fun e => by rw [c6] at e; cases e) (fun e => ?_)
          · kernel_rfl
          refine TS.exit ?_
          refine XS.passE ?_
          refine XS.passE ?_
          refine XS.out ?_
          refine XS.then ?_
          refine TS.seq ?_
          refine TS.block ?_
          refine TS.seq ?_
          have hq : (True) ∧ ((True) ∧ ((True) ∧ (True))) := ⟨trivial, ⟨trivial, ⟨trivial, trivial⟩⟩⟩
          refine TS.reg [] ?_ ?_
          · apply prop_of ?_ hq
            kernel_rfl
          refine XS.then ?_
          rcases bif_some h with ⟨c8, h⟩ | ⟨c9, h⟩
          · refine TS.cond (decide (vn > (4096 : Int))) ?_ (fun e => ?_) (fun e => by rw [c8] at e; cases e)
            · kernel_rfl
            refine TS.seq ?_
            have hq : (True) ∧ ((True) ∧ (True)) := ⟨trivial, ⟨trivial, trivial⟩⟩
            refine TS.reg [] ?_ ?_
            · apply prop_of ?_ hq
              kernel_rfl
            refine XS.then ?_
            refine TS.ret ?_
            refine XS.blockRet ?_
            refine XS.passR ?_
            obtain rfl : (([] : List UInt8), (2 : Int)) = r := Option.some.inj h
            exact XS.fin [] ((True) ∧ ((True) ∧ (True))) (by kernel_rfl) ⟨trivial, ⟨trivial, trivial⟩⟩
          · refine TS.cond (decide (vn > (4096 : Int))) ?_ (fun e => by rw [c9] at e; cases e) (fun e => ?_)
            · kernel_rfl
            refine TS.seq ?_
            have hq : (True) ∧ ((True) ∧ ((True) ∧ ((True) ∧ (True)))) := ⟨trivial, ⟨trivial, ⟨trivial, ⟨trivial, trivial⟩⟩⟩⟩
            refine TS.reg [] ?_ ?_
            · apply prop_of ?_ hq
              kernel_rfl
            refine XS.then ?_
            rcases bif_some h with ⟨c10, h⟩ | ⟨c11, h⟩
            · refine TS.cond (((pieces.length : Nat) : Int) == (0 : Int)) ?_ (fun e => ?_) (fun e => by rw [c10] at e; cases e)
              · kernel_rfl
              refine TS.seq ?_
              have hq : (True) ∧ ((True) ∧ (True)) := ⟨trivial, ⟨trivial, trivial⟩⟩
              refine TS.reg [] ?_ ?_
              · apply prop_of ?_ hq
                kernel_rfl
              refine XS.then ?_
              refine TS.ret ?_
              refine XS.blockRet ?_
              refine XS.passR ?_
              obtain rfl : (([] : List UInt8), (4 : Int)) = r := Option.some.inj h
              exact XS.fin [] ((True) ∧ ((True) ∧ (True))) (by kernel_rfl) ⟨trivial, ⟨trivial, trivial⟩⟩
            · refine TS.cond (((pieces.length : Nat) : Int) == (0 : Int)) ?_ (fun e => by rw [c11] at e; cases e) (fun e => ?_)
              · kernel_rfl
              refine TS.skip ?_
              refine XS.blockEnd ?_
              refine XS.then ?_
              refine TS.seq ?_
              have hq : (True) ∧ ((True) ∧ ((True) ∧ ((True) ∧ (True)))) := ⟨trivial, ⟨trivial, ⟨trivial, ⟨trivial, trivial⟩⟩⟩⟩
              refine TS.reg [] ?_ ?_
              · apply prop_of ?_ hq
                kernel_rfl
              refine XS.then ?_
              refine TS.seq ?_
              refine TS.seq ?_
              have hq : (True) ∧ ((True) ∧ ((True) ∧ (True))) := ⟨trivial, ⟨trivial, ⟨trivial, trivial⟩⟩⟩
              refine TS.reg [] ?_ ?_
              · apply prop_of ?_ hq
                kernel_rfl
              refine XS.then ?_
              refine TS.block ?_
              refine TS.reLoop [] (mkMask 69 [0, 1, 9, 39, 40, 41]) (D := Int) (fun d => match d with | x_2 => (mkTs 69 [(0, (.sl .str pieces)), (1, (.int .i64 size)), (9, (.int .i64 (IntKind.wrap .i64 (((pieces.length : Nat) : Int) - (1 : Int))))), (39, (.sl .str pieces)), (40, (.int .i64 ((pieces.length : Nat) : Int))), (41, (.int .i64 x_2))], [])) (fun n' d => loopF (F62_l8 n pieces size) n' d = some r) n (0 : Int) h ?_ (fun d => loopF_zero _ d r) ?_
              · kernel_rfl
              · rintro n8 x_2 h
                replace h : (bif (decide (x_2 < ((pieces.length : Nat) : Int))) then (bif inb x_2 pieces.length then (bif (decide (x_2 < (IntKind.wrap .i64 (((pieces.length : Nat) : Int) - (1 : Int))))) then (bif ((((pieces.getD x_2.toNat ([] : List UInt8)).length : Nat) : Int) != size) then (some (([] : List UInt8), (4 : Int))) else (bif (x_2 == (IntKind.wrap .i64 (((pieces.length : Nat) : Int) - (1 : Int)))) then (bif (decide ((((pieces.getD x_2.toNat ([] : List UInt8)).length : Nat) : Int) ≥ size)) then (some (([] : List UInt8), (4 : Int))) else ((loopF (F62_l8 n pieces size) n8) (IntKind.wrap .i64 (x_2 + (1 : Int))))) else ((loopF (F62_l8 n pieces size) n8) (IntKind.wrap .i64 (x_2 + (1 : Int)))))) else (bif (x_2 == (IntKind.wrap .i64 (((pieces.length : Nat) : Int) - (1 : Int)))) then (bif (decide ((((pieces.getD x_2.toNat ([] : List UInt8)).length : Nat) : Int) ≥ size)) then (some (([] : List UInt8), (4 : Int))) else ((loopF (F62_l8 n pieces size) n8) (IntKind.wrap .i64 (x_2 + (1 : Int))))) else ((loopF (F62_l8 n pieces size) n8) (IntKind.wrap .i64 (x_2 + (1 : Int)))))) else none) else ((F110 n pieces ([] : List UInt8)).bind fun y_3 => (some (y_3, (0 : Int))))) = some r := h
                refine TS.seq ?_
                have hq : (True) ∧ (True) := ⟨trivial, trivial⟩
                refine TS.reg [] ?_ ?_
                · apply prop_of ?_ hq
                  kernel_rfl
                refine XS.then ?_
                refine TS.seq ?_
                rcases bif_some h with ⟨c12, h⟩ | ⟨c13, h⟩
                · refine TS.cond (decide (x_2 < ((pieces.length : Nat) : Int))) ?_ (fun e => ?_) (fun e => by rw [c12] at e; cases e)
                  · kernel_rfl
                  refine TS.skip ?_
                  refine XS.then ?_
                  refine TS.seq ?_
                  refine TS.block ?_
                  refine TS.seq ?_
                  obtain ⟨t14, h⟩ := test_some h
                  have hq : (True) ∧ ((inR x_2 pieces.length) ∧ ((True) ∧ ((True) ∧ ((True) ∧ (True))))) := ⟨trivial, ⟨inb_ok t14, ⟨trivial, ⟨trivial, ⟨trivial, trivial⟩⟩⟩⟩⟩
                  refine TS.reg [] ?_ ?_
                  · apply prop_of ?_ hq
                    kernel_rfl
                  refine XS.then ?_
                  refine TS.seq ?_
                  rcases bif_some h with ⟨c15, h⟩ | ⟨c16, h⟩
                  · rcases bif_some h with ⟨c17, h⟩ | ⟨c18, h⟩
                    · have hq : (True) ∧ ((True) ∧ ((True) ∧ (((True) ∧ (decide (x_2 < (IntKind.wrap .i64 (((pieces.length : Nat) : Int) - (1 : Int))))) = true) ∧ ((True) ∧ ((True) ∧ ((True) ∧ ((True) ∧ ((True) ∧ (((True) ∧ ((((pieces.getD x_2.toNat ([] : List UInt8)).length : Nat) : Int) != size) = true) ∧ ((True) ∧ (True))))))))))) := ⟨trivial, ⟨trivial, ⟨trivial, ⟨⟨trivial, c15⟩, ⟨trivial, ⟨trivial, ⟨trivial, ⟨trivial, ⟨trivial, ⟨⟨trivial, c17⟩, ⟨trivial, trivial⟩⟩⟩⟩⟩⟩⟩⟩⟩⟩⟩
                      refine TS.reg [.none, .none, .none, .dec true, .none, .none, .none, .none, .none, .dec true] ?_ ?_
                      · apply prop_of ?_ hq
                        kernel_rfl
                      refine XS.then ?_
                      refine TS.yes ?_ ?_
                      · kernel_rfl
                      refine TS.seq ?_
                      have hq : (True) ∧ ((True) ∧ (True)) := ⟨trivial, ⟨trivial, trivial⟩⟩
                      refine TS.reg [] ?_ ?_
                      · apply prop_of ?_ hq
                        kernel_rfl
                      refine XS.then ?_
                      refine TS.ret ?_
                      refine XS.blockRet ?_
                      refine XS.passR ?_
                      refine XS.passR ?_
                      refine XS.blockRet ?_
                      refine XS.passR ?_
                      obtain rfl : (([] : List UInt8), (4 : Int)) = r := Option.some.inj h
                      exact XS.fin [] ((True) ∧ ((True) ∧ (True))) (by kernel_rfl) ⟨trivial, ⟨trivial, trivial⟩⟩
                    · rcases bif_some h with ⟨c19, h⟩ | ⟨c20, h⟩
                      · have hq : (True) ∧ ((True) ∧ ((True) ∧ (((True) ∧ (decide (x_2 < (IntKind.wrap .i64 (((pieces.length : Nat) : Int) - (1 : Int))))) = true) ∧ ((True) ∧ ((True) ∧ ((True) ∧ ((True) ∧ ((True) ∧ (((True) ∧ ((((pieces.getD x_2.toNat ([] : List UInt8)).length : Nat) : Int) != size) = false) ∧ ((True) ∧ ((True) ∧ ((True) ∧ (((True) ∧ (x_2 == (IntKind.wrap .i64 (((pieces.length : Nat) : Int) - (1 : Int)))) = true) ∧ ((True) ∧ ((True) ∧ ((True) ∧ ((True) ∧ ((True) ∧ ((True) ∧ (True)))))))))))))))))))) := ⟨trivial, ⟨trivial, ⟨trivial, ⟨⟨trivial, c15⟩, ⟨trivial, ⟨trivial, ⟨trivial, ⟨trivial, ⟨trivial, ⟨⟨trivial, c18⟩, ⟨trivial, ⟨trivial, ⟨trivial, ⟨⟨trivial, c19⟩, ⟨trivial, ⟨trivial, ⟨trivial, ⟨trivial, ⟨trivial, ⟨trivial, trivial⟩⟩⟩⟩⟩⟩⟩⟩⟩⟩⟩⟩⟩⟩⟩⟩⟩⟩⟩⟩
                        refine TS.reg [.none, .none, .none, .dec true, .none, .none, .none, .none, .none, .dec false, .none, .none, .none, .dec true] ?_ ?_
                        · apply prop_of ?_ hq
                          kernel_rfl
                        refine XS.then ?_
                        rcases bif_some h with ⟨c21, h⟩ | ⟨c22, h⟩
                        · refine TS.cond (decide ((((pieces.getD x_2.toNat ([] : List UInt8)).length : Nat) : Int) ≥ size)) ?_ (fun e => ?_) (fun e => by rw [c21] at e; cases e)
                          · kernel_rfl
                          refine TS.seq ?_
                          have hq : (True) ∧ ((True) ∧ (True)) := ⟨trivial, ⟨trivial, trivial⟩⟩
                          refine TS.reg [] ?_ ?_
                          · apply prop_of ?_ hq
                            kernel_rfl
                          refine XS.then ?_
                          refine TS.ret ?_
                          refine XS.blockRet ?_
                          refine XS.passR ?_
                          refine XS.passR ?_
                          refine XS.blockRet ?_
                          refine XS.passR ?_
                          obtain rfl : (([] : List UInt8), (4 : Int)) = r := Option.some.inj h
                          exact XS.fin [] ((True) ∧ ((True) ∧ (True))) (by kernel_rfl) ⟨trivial, ⟨trivial, trivial⟩⟩
                        · refine TS.cond (decide ((((pieces.getD x_2.toNat ([] : List UInt8)).length : Nat) : Int) ≥ size)) ?_ (fun e => by rw [c22] at e; cases e) (fun e => ?_)
                          · kernel_rfl
                          refine TS.skip ?_
                          refine XS.blockEnd ?_
                          refine XS.then ?_
                          have hq : (True) ∧ ((True) ∧ (True)) := ⟨trivial, ⟨trivial, trivial⟩⟩
                          refine TS.reg [] ?_ ?_
                          · apply prop_of ?_ hq
                            kernel_rfl
                          refine XS.reAny [] (mkMask 69 [0, 1, 9, 39, 40, 41]) (IntKind.wrap .i64 (x_2 + (1 : Int))) h ?_
                          kernel_rfl
                      · have hq : (True) ∧ ((True) ∧ ((True) ∧ (((True) ∧ (decide (x_2 < (IntKind.wrap .i64 (((pieces.length : Nat) : Int) - (1 : Int))))) = true) ∧ ((True) ∧ ((True) ∧ ((True) ∧ ((True) ∧ ((True) ∧ (((True) ∧ ((((pieces.getD x_2.toNat ([] : List UInt8)).length : Nat) : Int) != size) = false) ∧ ((True) ∧ ((True) ∧ ((True) ∧ (((True) ∧ (x_2 == (IntKind.wrap .i64 (((pieces.length : Nat) : Int) - (1 : Int)))) = false) ∧ ((True) ∧ ((True) ∧ (True)))))))))))))))) := ⟨trivial, ⟨trivial, ⟨trivial, ⟨⟨trivial, c15⟩, ⟨trivial, ⟨trivial, ⟨trivial, ⟨trivial, ⟨trivial, ⟨⟨trivial, c18⟩, ⟨trivial, ⟨trivial, ⟨trivial, ⟨⟨trivial, c20⟩, ⟨trivial, ⟨trivial, trivial⟩⟩⟩⟩⟩⟩⟩⟩⟩⟩⟩⟩⟩⟩⟩⟩
                        refine TS.reg [.none, .none, .none, .dec true, .none, .none, .none, .none, .none, .dec false, .none, .none, .none, .dec false] ?_ ?_
                        · apply prop_of ?_ hq
                          kernel_rfl
                        refine XS.then ?_
                        refine TS.no ?_ ?_
                        · kernel_rfl
                        refine TS.skip ?_
                        refine XS.blockEnd ?_
                        refine XS.then ?_
                        have hq : (True) ∧ ((True) ∧ (True)) := ⟨trivial, ⟨trivial, trivial⟩⟩
                        refine TS.reg [] ?_ ?_
                        · apply prop_of ?_ hq
                          kernel_rfl
                        refine XS.reAny [] (mkMask 69 [0, 1, 9, 39, 40, 41]) (IntKind.wrap .i64 (x_2 + (1 : Int))) h ?_
                        kernel_rfl
                  · rcases bif_some h with ⟨c23, h⟩ | ⟨c24, h⟩
                    · have hq : (True) ∧ ((True) ∧ ((True) ∧ (((True) ∧ (decide (x_2 < (IntKind.wrap .i64 (((pieces.length : Nat) : Int) - (1 : Int))))) = false) ∧ ((True) ∧ ((True) ∧ ((True) ∧ ((True) ∧ ((True) ∧ (((True) ∧ (x_2 == (IntKind.wrap .i64 (((pieces.length : Nat) : Int) - (1 : Int)))) = true) ∧ ((True) ∧ ((True) ∧ ((True) ∧ ((True) ∧ ((True) ∧ ((True) ∧ (True)))))))))))))))) := ⟨trivial, ⟨trivial, ⟨trivial, ⟨⟨trivial, c16⟩, ⟨trivial, ⟨trivial, ⟨trivial, ⟨trivial, ⟨trivial, ⟨⟨trivial, c23⟩, ⟨trivial, ⟨trivial, ⟨trivial, ⟨trivial, ⟨trivial, ⟨trivial, trivial⟩⟩⟩⟩⟩⟩⟩⟩⟩⟩⟩⟩⟩⟩⟩⟩
                      refine TS.reg [.none, .none, .none, .dec false, .none, .none, .none, .none, .none, .none, .none, .none, .none, .dec true] ?_ ?_
                      · apply prop_of ?_ hq
                        kernel_rfl
                      refine XS.then ?_
                      rcases bif_some h with ⟨c25, h⟩ | ⟨c26, h⟩
                      · refine TS.cond (decide ((((pieces.getD x_2.toNat ([] : List UInt8)).length : Nat) : Int) ≥ size)) ?_ (fun e => ?_) (fun e => by rw [c25] at e; cases e)
                        · kernel_rfl
                        refine TS.seq ?_
                        have hq : (True) ∧ ((True) ∧ (True)) := ⟨trivial, ⟨trivial, trivial⟩⟩
                        refine TS.reg [] ?_ ?_
                        · apply prop_of ?_ hq
                          kernel_rfl
                        refine XS.then ?_
                        refine TS.ret ?_
                        refine XS.blockRet ?_
                        refine XS.passR ?_
                        refine XS.passR ?_
                        refine XS.blockRet ?_
                        refine XS.passR ?_
                        obtain rfl : (([] : List UInt8), (4 : Int)) = r := Option.some.inj h
                        exact XS.fin [] ((True) ∧ ((True) ∧ (True))) (by kernel_rfl) ⟨trivial, ⟨trivial, trivial⟩⟩
                      · refine TS.cond (decide ((((pieces.getD x_2.toNat ([] : List UInt8)).length : Nat) : Int) ≥ size)) ?_ (fun e => by rw [c26] at e; cases e) (fun e => ?_)
                        · kernel_rfl
                        refine TS.skip ?_
                        refine XS.blockEnd ?_
                        refine XS.then ?_
                        have hq : (True) ∧ ((True) ∧ (True)) := ⟨trivial, ⟨trivial, trivial⟩⟩
                        refine TS.reg [] ?_ ?_
                        · apply prop_of ?_ hq
                          kernel_rfl
                        refine XS.reAny [] (mkMask 69 [0, 1, 9, 39, 40, 41]) (IntKind.wrap .i64 (x_2 + (1 : Int))) h ?_
                        kernel_rfl
                    · have hq : (True) ∧ ((True) ∧ ((True) ∧ (((True) ∧ (decide (x_2 < (IntKind.wrap .i64 (((pieces.length : Nat) : Int) - (1 : Int))))) = false) ∧ ((True) ∧ ((True) ∧ ((True) ∧ ((True) ∧ ((True) ∧ (((True) ∧ (x_2 == (IntKind.wrap .i64 (((pieces.length : Nat) : Int) - (1 : Int)))) = false) ∧ ((True) ∧ ((True) ∧ (True)))))))))))) := ⟨trivial, ⟨trivial, ⟨trivial, ⟨⟨trivial, c16⟩, ⟨trivial, ⟨trivial, ⟨trivial, ⟨trivial, ⟨trivial, ⟨⟨trivial, c24⟩, ⟨trivial, ⟨trivial, trivial⟩⟩⟩⟩⟩⟩⟩⟩⟩⟩⟩⟩
                      refine TS.reg [.none, .none, .none, .dec false, .none, .none, .none, .none, .none, .none, .none, .none, .none, .dec false] ?_ ?_
                      · apply prop_of ?_ hq
                        kernel_rfl
                      refine XS.then ?_
                      refine TS.no ?_ ?_
                      · kernel_rfl
                      refine TS.skip ?_
                      refine XS.blockEnd ?_
                      refine XS.then ?_
                      have hq : (True) ∧ ((True) ∧ (True)) := ⟨trivial, ⟨trivial, trivial⟩⟩
                      refine TS.reg [] ?_ ?_
                      · apply prop_of ?_ hq
                        kernel_rfl
                      refine XS.reAny [] (mkMask 69 [0, 1, 9, 39, 40, 41]) (IntKind.wrap .i64 (x_2 + (1 : Int))) h ?_
                      kernel_rfl
                · refine TS.cond (decide (x_2 < ((pieces.length : Nat) : Int))) ?_ (fun e => by rw [c13] at e; cases e) (fun e => ?_)
                  · kernel_rfl
                  refine TS.exit ?_
                  refine XS.passE ?_
                  refine XS.passE ?_
                  refine XS.out ?_
                  refine XS.then ?_
                  refine TS.seq ?_
                  obtain ⟨y_3, hx27, h⟩ := bind_some' h
                  have hq : (True) ∧ ((PureC Try.prog 110 [(.sl .str pieces), (.str ([] : List UInt8))] (.str y_3) []) ∧ ((True) ∧ ((True) ∧ (True)))) := ⟨trivial, ⟨F110_ok n pieces ([] : List UInt8) y_3 hx27, ⟨trivial, ⟨trivial, trivial⟩⟩⟩⟩
                  refine TS.reg [.none, (.call (.str y_3) [])] ?_ ?_
                  · apply prop_of ?_ hq
                    kernel_rfl
                  refine XS.then ?_
                  refine TS.ret ?_
                  obtain rfl : (y_3, (0 : Int)) = r := Option.some.inj h
                  exact XS.fin [] ((True) ∧ ((True) ∧ (True))) (by kernel_rfl) ⟨trivial, ⟨trivial, trivial⟩⟩

/-! plugtree/plugref.Joined -/
def F63_l8 (n : Nat) (pieces : List (List UInt8)) (y_4 : List UInt8) (y_5 : Int × (List (List UInt8))) (k63_8 : Int → Option ((List UInt8) × Int)) : Int → Option ((List UInt8) × Int)
  | x_2 => (bif (decide (x_2 < ((y_5.2.length : Nat) : Int))) then (bif inb x_2 y_5.2.length then (bif inb x_2 pieces.length then (bif (!((y_5.2.getD x_2.toNat ([] : List UInt8)) == (pieces.getD x_2.toNat ([] : List UInt8)))) then (some (([] : List UInt8), (4 : Int))) else (k63_8 (IntKind.wrap .i64 (x_2 + (1 : Int))))) else none) else none) else (some (y_4, (0 : Int))))
def F63_l7 (n : Nat) (pieces : List (List UInt8)) (size : Int) (k63_7 : (Int × Int) → Option ((List UInt8) × Int)) : (Int × Int) → Option ((List UInt8) × Int)
  | (vn, x) => (bif (decide (x < ((pieces.length : Nat) : Int))) then (bif inb x pieces.length then (bif (decide ((((pieces.getD x.toNat ([] : List UInt8)).length : Nat) : Int) > (IntKind.wrap .i64 ((4096 : Int) - vn)))) then (some (([] : List UInt8), (2 : Int))) else (k63_7 ((IntKind.wrap .i64 (vn + (((pieces.getD x.toNat ([] : List UInt8)).length : Nat) : Int))), (IntKind.wrap .i64 (x + (1 : Int)))))) else none) else ((F110 n pieces ([] : List UInt8)).bind fun y_4 => ((F61 n y_4 size).bind fun y_5 => (bif (((y_5.2.length : Nat) : Int) != ((pieces.length : Nat) : Int)) then (some (([] : List UInt8), (4 : Int))) else (loopF (F63_l8 n pieces y_4 y_5) n (0 : Int))))))
def F63 (n : Nat) (pieces : List (List UInt8)) (size : Int) : Option ((List UInt8) × Int) := ((F16 n size (1 : Int) (64 : Int)).bind fun y_3 => (bif (!y_3) then (some (([] : List UInt8), (1 : Int))) else (loopF (F63_l7 n pieces size) n ((0 : Int), (0 : Int)))))
theorem F63_ok (n : Nat) (pieces : List (List UInt8)) (size : Int) (r : (List UInt8) × Int) (h : F63 n pieces size = some r) : PureC Try.prog 63 [(.sl .str pieces), (.int .i64 size)] (.tup (.cons (.str r.1) (.cons (.int .i64 r.2) .nil))) [] := by
  refine PureC.mkS Try.func63 rfl rfl ?_
  intro w0 fz0 hfz
  replace h : ((F16 n size (1 : Int) (64 : Int)).bind fun y_3 => (bif (!y_3) then (some (([] : List UInt8), (1 : Int))) else (loopF (F63_l7 n pieces size) n ((0 : Int), (0 : Int))))) = some r := h
  refine TS.seq ?_
  have hq : (True) ∧ ((True) ∧ (True)) := ⟨trivial, ⟨trivial, trivial⟩⟩
  refine TS.reg [] ?_ ?_
  · apply prop_of ?_ hq
    kernel_rfl
  refine XS.then ?_
  refine TS.seq ?_
  refine TS.seq ?_
  obtain ⟨y_3, hx1, h⟩ := bind_some' h
  have hq : (True) ∧ ((PureC Try.prog 16 [(.int .i64 size), (.int .i64 (1 : Int)), (.int .i64 (64 : Int))] (.bool y_3) []) ∧ ((True) ∧ (True))) := ⟨trivial, ⟨F16_ok n size (1 : Int) (64 : Int) y_3 hx1, ⟨trivial, trivial⟩⟩⟩
  refine TS.reg [.none, (.call (.bool y_3) [])] ?_ ?_
  · apply prop_of ?_ hq
    kernel_rfl
  refine XS.then ?_
  rcases bif_some h with ⟨c2, h⟩ | ⟨c3, h⟩
  · refine TS.cond (!y_3) ?_ (fun e => ?_) (fun e => by rw [c2] at e; cases e)
    · kernel_rfl
    refine TS.seq ?_
    have hq : (True) ∧ ((True) ∧ (True)) := ⟨trivial, ⟨trivial, trivial⟩⟩
    refine TS.reg [] ?_ ?_
    · apply prop_of ?_ hq
      kernel_rfl
    refine XS.then ?_
    refine TS.ret ?_
    refine XS.passR ?_
    obtain rfl : (([] : List UInt8), (1 : Int)) = r := Option.some.inj h
    exact XS.fin [] ((True) ∧ ((True) ∧ (True))) (by kernel_rfl) ⟨trivial, ⟨trivial, trivial⟩⟩
  · refine TS.cond (!y_3) ?_ (fun e => by rw [c3] at e; cases e) (fun e => ?_)
    · kernel_rfl
    refine TS.skip ?_
    refine XS.then ?_
    refine TS.seq ?_
    have hq : (True) ∧ (True) := ⟨trivial, trivial⟩
    refine TS.reg [] ?_ ?_
    · apply prop_of ?_ hq
      kernel_rfl
    refine XS.then ?_
    refine TS.seq ?_
    refine TS.seq ?_
    have hq : (True) ∧ ((True) ∧ ((True) ∧ (True))) := ⟨trivial, ⟨trivial, ⟨trivial, trivial⟩⟩⟩
    refine TS.reg [] ?_ ?_
    · apply prop_of ?_ hq
      kernel_rfl
    refine XS.then ?_
    refine TS.block ?_
    refine TS.reLoop [] (mkMask 61 [0, 1, 6, 16, 17, 18]) (D := Int × Int) (fun d => match d with | (vn, x) => (mkTs 61 [(0, (.sl .str pieces)), (1, (.int .i64 size)), (6, (.int .i64 vn)), (16, (.sl .str pieces)), (17, (.int .i64 ((pieces.length : Nat) : Int))), (18, (.int .i64 x))], [])) (fun n' d => loopF (F63_l7 n pieces size) n' d = some r) n ((0 : Int), (0 : Int)) h ?_ (fun d => loopF_zero _ d r) ?_
    · kernel_rfl
    · rintro n7 ⟨vn, x⟩ h
      replace h : (bif (decide (x < ((pieces.length : Nat) : Int))) then (bif inb x pieces.length then (bif (decide ((((pieces.getD x.toNat ([] : List UInt8)).length : Nat) : Int) > (IntKind.wrap .i64 ((4096 : Int) - vn)))) then (some (([] : List UInt8), (2 : Int))) else ((loopF (F63_l7 n pieces size) n7) ((IntKind.wrap .i64 (vn + (((pieces.getD x.toNat ([] : List UInt8)).length : Nat) : Int))), (IntKind.wrap .i64 (x + (1 : Int)))))) else none) else ((F110 n pieces ([] : List UInt8)).bind fun y_4 => ((F61 n y_4 size).bind fun y_5 => (bif (((y_5.2.length : Nat) : Int) != ((pieces.length : Nat) : Int)) then (some (([] : List UInt8), (4 : Int))) else (loopF (F63_l8 n pieces y_4 y_5) n (0 : Int)))))) = some r := h
      refine TS.seq ?_
      have hq : (True) ∧ (True) := ⟨trivial, trivial⟩
      refine TS.reg [] ?_ ?_
      · apply prop_of ?_ hq
        kernel_rfl
      refine XS.then ?_
      refine TS.seq ?_
      rcases bif_some h with ⟨c4, h⟩ | ⟨c5, h⟩
      · refine TS.cond (decide (x < ((pieces.length : Nat) : Int))) ?_ (fun e => ?_) (fun e => by rw [c4] at e; cases e)
        · kernel_rfl
        refine TS.skip ?_
        refine XS.then ?_
        refine TS.seq ?_
        refine TS.block ?_
        refine TS.seq ?_
        obtain ⟨t6, h⟩ := test_some h
        have hq : (inR x pieces.length) ∧ ((True) ∧ ((True) ∧ (True))) := ⟨inb_ok t6, ⟨trivial, ⟨trivial, trivial⟩⟩⟩
        refine TS.reg [] ?_ ?_
        · apply prop_of ?_ hq
          kernel_rfl
        refine XS.then ?_
        refine TS.seq ?_
        refine TS.seq ?_
        have hq : (True) ∧ ((True) ∧ ((True) ∧ ((True) ∧ ((True) ∧ (True))))) := ⟨trivial, ⟨trivial, ⟨trivial, ⟨trivial, ⟨trivial, trivial⟩⟩⟩⟩⟩
        refine TS.reg [] ?_ ?_
        · apply prop_of ?_ hq
          kernel_rfl
        refine XS.then ?_
        rcases bif_some h with ⟨c7, h⟩ | ⟨c8, h⟩
        · refine TS.cond (decide ((((pieces.getD x.toNat ([] : List UInt8)).length : Nat) : Int) > (IntKind.wrap .i64 ((4096 : Int) - vn)))) ?_ (fun e => ?_) (fun e => by rw [c7] at e; cases e)
          · kernel_rfl
          refine TS.seq ?_
          have hq : (True) ∧ ((True) ∧ (True)) := ⟨trivial, ⟨trivial, trivial⟩⟩
          refine TS.reg [] ?_ ?_
          · apply prop_of ?_ hq
            kernel_rfl
          refine XS.then ?_
          refine TS.ret ?_
          refine XS.passR ?_
          refine XS.blockRet ?_
          refine XS.passR ?_
          refine XS.passR ?_
          refine XS.blockRet ?_
          refine XS.passR ?_
          obtain rfl : (([] : List UInt8), (2 : Int)) = r := Option.some.inj h
          exact XS.fin [] ((True) ∧ ((True) ∧ (True))) (by kernel_rfl) ⟨trivial, ⟨trivial, trivial⟩⟩
        · refine TS.cond (decide ((((pieces.getD x.toNat ([] : List UInt8)).length : Nat) : Int) > (IntKind.wrap .i64 ((4096 : Int) - vn)))) ?_ (fun e => by rw [c8] at e; cases e) (fun e => ?_)
          · kernel_rfl
          refine TS.skip ?_
          refine XS.then ?_
          have hq : (True) ∧ ((True) ∧ ((True) ∧ ((True) ∧ ((True) ∧ (True))))) := ⟨trivial, ⟨trivial, ⟨trivial, ⟨trivial, ⟨trivial, trivial⟩⟩⟩⟩⟩
          refine TS.reg [] ?_ ?_
          · apply prop_of ?_ hq
            kernel_rfl
          refine XS.blockEnd ?_
          refine XS.then ?_
          have hq : (True) ∧ ((True) ∧ (True)) := ⟨trivial, ⟨trivial, trivial⟩⟩
          refine TS.reg [] ?_ ?_
          · apply prop_of ?_ hq
            kernel_rfl
          refine XS.reAny [] (mkMask 61 [0, 1, 6, 16, 17, 18]) ((IntKind.wrap .i64 (vn + (((pieces.getD x.toNat ([] : List UInt8)).length : Nat) : Int))), (IntKind.wrap .i64 (x + (1 : Int)))) h ?_
          kernel_rfl
      · refine TS.cond (decide (x < ((pieces.length : Nat) : Int))) ?_ (fun e => by rw [c5] at e; cases e) (fun e => ?_)
        · kernel_rfl
        refine TS.exit ?_
        refine XS.passE ?_
        refine XS.passE ?_
        refine XS.out ?_
        refine XS.then ?_
        refine TS.seq ?_
        obtain ⟨y_4, hx9, h⟩ := bind_some' h
        have hq : (True) ∧ ((PureC Try.prog 110 [(.sl .str pieces), (.str ([] : List UInt8))] (.str y_4) []) ∧ ((True) ∧ (True))) := ⟨trivial, ⟨F110_ok n pieces ([] : List UInt8) y_4 hx9, ⟨trivial, trivial⟩⟩⟩
        refine TS.reg [.none, (.call (.str y_4) [])] ?_ ?_
        · apply prop_of ?_ hq
          kernel_rfl
        refine XS.then ?_
        refine TS.seq ?_
        obtain ⟨y_5, hx10, h⟩ := bind_some' h
        have hq : (True) ∧ ((True) ∧ ((PureC Try.prog 61 [(.str y_4), (.int .i64 size)] (.tup (.cons (.row 0) (.cons (.int .i64 y_5.1) .nil))) [(.row 9 .str y_5.2)]) ∧ ((True) ∧ ((True) ∧ ((True) ∧ ((True) ∧ ((True) ∧ (True)))))))) := ⟨trivial, ⟨trivial, ⟨F61_ok n y_4 size y_5 hx10, ⟨trivial, ⟨trivial, ⟨trivial, ⟨trivial, ⟨trivial, trivial⟩⟩⟩⟩⟩⟩⟩⟩
        refine TS.reg [.none, .none, (.call (.tup (.cons (.row 0) (.cons (.int .i64 y_5.1) .nil))) [(.row 9 .str y_5.2)])] ?_ ?_
        · apply prop_of ?_ hq
          kernel_rfl
        refine XS.then ?_
        refine TS.seq ?_
        refine TS.seq ?_
        have hq : (True) ∧ ((True) ∧ ((True) ∧ ((True) ∧ ((True) ∧ (True))))) := ⟨trivial, ⟨trivial, ⟨trivial, ⟨trivial, ⟨trivial, trivial⟩⟩⟩⟩⟩
        refine TS.reg [] ?_ ?_
        · apply prop_of ?_ hq
          kernel_rfl
        refine XS.then ?_
        rcases bif_some h with ⟨c11, h⟩ | ⟨c12, h⟩
        · refine TS.cond (((y_5.2.length : Nat) : Int) != ((pieces.length : Nat) : Int)) ?_ (fun e => ?_) (fun e => by rw [c11] at e; cases e)
          · kernel_rfl
          refine TS.seq ?_
          have hq : (True) ∧ ((True) ∧ (True)) := ⟨trivial, ⟨trivial, trivial⟩⟩
          refine TS.reg [] ?_ ?_
          · apply prop_of ?_ hq
            kernel_rfl
          refine XS.then ?_
          refine TS.ret ?_
          refine XS.passR ?_
          obtain rfl : (([] : List UInt8), (4 : Int)) = r := Option.some.inj h
          exact XS.fin [] ((True) ∧ ((True) ∧ (True))) (by kernel_rfl) ⟨trivial, ⟨trivial, trivial⟩⟩
        · refine TS.cond (((y_5.2.length : Nat) : Int) != ((pieces.length : Nat) : Int)) ?_ (fun e => by rw [c12] at e; cases e) (fun e => ?_)
          · kernel_rfl
          refine TS.skip ?_
          refine XS.then ?_
          refine TS.seq ?_
          refine TS.seq ?_
          have hq : (True) ∧ ((True) ∧ ((True) ∧ (True))) := ⟨trivial, ⟨trivial, ⟨trivial, trivial⟩⟩⟩
          refine TS.reg [] ?_ ?_
          · apply prop_of ?_ hq
            kernel_rfl
          refine XS.then ?_
          refine TS.block ?_
          refine TS.reLoop [0] (mkMask 61 [0, 9, 10, 46, 47]) (D := Int) (fun d => match d with | x_2 => (mkTs 61 [(0, (.sl .str pieces)), (9, (.str y_4)), (10, (.row 0)), (46, (.int .i64 ((y_5.2.length : Nat) : Int))), (47, (.int .i64 x_2))], [(.row 9 .str y_5.2)])) (fun n' d => loopF (F63_l8 n pieces y_4 y_5) n' d = some r) n (0 : Int) h ?_ (fun d => loopF_zero _ d r) ?_
          · kernel_rfl
          · rintro n8 x_2 h
            replace h : (bif (decide (x_2 < ((y_5.2.length : Nat) : Int))) then (bif inb x_2 y_5.2.length then (bif inb x_2 pieces.length then (bif (!((y_5.2.getD x_2.toNat ([] : List UInt8)) == (pieces.getD x_2.toNat ([] : List UInt8)))) then (some (([] : List UInt8), (4 : Int))) else ((loopF (F63_l8 n pieces y_4 y_5) n8) (IntKind.wrap .i64 (x_2 + (1 : Int))))) else none) else none) else (some (y_4, (0 : Int)))) = some r := h
            refine TS.seq ?_
            have hq : (True) ∧ (True) := ⟨trivial, trivial⟩
            refine TS.reg [] ?_ ?_
            · apply prop_of ?_ hq
              kernel_rfl
            refine XS.then ?_
            refine TS.seq ?_
            rcases bif_some h with ⟨c13, h⟩ | ⟨c14, h⟩
            · refine TS.cond (decide (x_2 < ((y_5.2.length : Nat) : Int))) ?_ (fun e => ?_) (fun e => by rw [c13] at e; cases e)
              · kernel_rfl
              refine TS.skip ?_
              refine XS.then ?_
              refine TS.seq ?_
              refine TS.block ?_
              refine TS.seq ?_
              have hq : (True) ∧ ((True) ∧ (True)) := ⟨trivial, ⟨trivial, trivial⟩⟩
              refine TS.reg [] ?_ ?_
              · apply prop_of ?_ hq
                kernel_rfl
              refine XS.then ?_
              refine TS.seq ?_
              obtain ⟨t15, h⟩ := test_some h
              obtain ⟨t16, h⟩ := test_some h
              have hq : ((True) ∧ ((True) ∧ ((inR x_2 y_5.2.length) ∧ ((x_2.toNat < y_5.2.length ∧ (True)) ∧ ((True) ∧ ((True) ∧ ((inR x_2 pieces.length) ∧ ((True) ∧ ((True) ∧ (True)))))))))) ∧ (True) := ⟨⟨trivial, ⟨trivial, ⟨inb_ok t15, ⟨⟨inR_lt (inb_ok t15), trivial⟩, ⟨trivial, ⟨trivial, ⟨inb_ok t16, ⟨trivial, ⟨trivial, trivial⟩⟩⟩⟩⟩⟩⟩⟩⟩, trivial⟩
              refine TS.draw 9 [] [] (by kernel_rfl) ?_ ?_
              · apply prop_of ?_ hq
                kernel_rfl
              refine XS.then ?_
              rcases bif_some h with ⟨c17, h⟩ | ⟨c18, h⟩
              · refine TS.cond (!((y_5.2.getD x_2.toNat ([] : List UInt8)) == (pieces.getD x_2.toNat ([] : List UInt8)))) ?_ (fun e => ?_) (fun e => by rw [c17] at e; cases e)
                · kernel_rfl
                refine TS.seq ?_
                have hq : (True) ∧ ((True) ∧ (True)) := ⟨trivial, ⟨trivial, trivial⟩⟩
                refine TS.reg [] ?_ ?_
                · apply prop_of ?_ hq
                  kernel_rfl
                refine XS.then ?_
                refine TS.ret ?_
                refine XS.blockRet ?_
                refine XS.passR ?_
                refine XS.passR ?_
                refine XS.blockRet ?_
                refine XS.passR ?_
                obtain rfl : (([] : List UInt8), (4 : Int)) = r := Option.some.inj h
                exact XS.fin [] ((True) ∧ ((True) ∧ (True))) (by kernel_rfl) ⟨trivial, ⟨trivial, trivial⟩⟩
              · refine TS.cond (!((y_5.2.getD x_2.toNat ([] : List UInt8)) == (pieces.getD x_2.toNat ([] : List UInt8)))) ?_ (fun e => by rw [c18] at e; cases e) (fun e => ?_)
                · kernel_rfl
                refine TS.skip ?_
                refine XS.blockEnd ?_
                refine XS.then ?_
                have hq : (True) ∧ ((True) ∧ (True)) := ⟨trivial, ⟨trivial, trivial⟩⟩
                refine TS.reg [] ?_ ?_
                · apply prop_of ?_ hq
                  kernel_rfl
                refine XS.reAny [0] (mkMask 61 [0, 9, 10, 46, 47]) (IntKind.wrap .i64 (x_2 + (1 : Int))) h ?_
                kernel_rfl
            · refine TS.cond (decide (x_2 < ((y_5.2.length : Nat) : Int))) ?_ (fun e => by rw [c14] at e; cases e) (fun e => ?_)
              · kernel_rfl
              refine TS.exit ?_
              refine XS.passE ?_
              refine XS.passE ?_
              refine XS.out ?_
              refine XS.then ?_
              refine TS.seq ?_
              have hq : (True) ∧ ((True) ∧ ((True) ∧ (True))) := ⟨trivial, ⟨trivial, ⟨trivial, trivial⟩⟩⟩
              refine TS.reg [] ?_ ?_
              · apply prop_of ?_ hq
                kernel_rfl
              refine XS.then ?_
              refine TS.ret ?_
              obtain rfl : (y_4, (0 : Int)) = r := Option.some.inj h
              exact XS.fin [] ((True) ∧ ((True) ∧ (True))) (by kernel_rfl) ⟨trivial, ⟨trivial, trivial⟩⟩

/-! slices.Equal[[]string,string] -/
def F64_l2 (n : Nat) (s1 : List (List UInt8)) (s2 : List (List UInt8)) (k64_2 : Int → Option Bool) : Int → Option Bool
  | x => (bif (decide (x < ((s1.length : Nat) : Int))) then (bif inb x s1.length then (bif inb x s2.length then (bif (!((s1.getD x.toNat ([] : List UInt8)) == (s2.getD x.toNat ([] : List UInt8)))) then (some false) else (k64_2 (IntKind.wrap .i64 (x + (1 : Int))))) else none) else none) else (some true))
def F64 (n : Nat) (s1 : List (List UInt8)) (s2 : List (List UInt8)) : Option Bool := (bif (((s1.length : Nat) : Int) != ((s2.length : Nat) : Int)) then (some false) else (loopF (F64_l2 n s1 s2) n (0 : Int)))
theorem F64_ok (n : Nat) (s1 : List (List UInt8)) (s2 : List (List UInt8)) (r : Bool) (h : F64 n s1 s2 = some r) : PureC Try.prog 64 [(.sl .str s1), (.sl .str s2)] (.bool r) [] := by
  refine PureC.mkS Try.func64 rfl rfl ?_
  intro w0 fz0 hfz
  replace h : (bif (((s1.length : Nat) : Int) != ((s2.length : Nat) : Int)) then (some false) else (loopF (F64_l2 n s1 s2) n (0 : Int))) = some r := h
  refine TS.seq ?_
  have hq : (True) ∧ (True) := ⟨trivial, trivial⟩
  refine TS.reg [] ?_ ?_
  · apply prop_of ?_ hq
    kernel_rfl
  refine XS.then ?_
  refine TS.seq ?_
  refine TS.seq ?_
  have hq : (True) ∧ ((True) ∧ ((True) ∧ ((True) ∧ ((True) ∧ (True))))) := ⟨trivial, ⟨trivial, ⟨trivial, ⟨trivial, ⟨trivial, trivial⟩⟩⟩⟩⟩
  refine TS.reg [] ?_ ?_
  · apply prop_of ?_ hq
    kernel_rfl
  refine XS.then ?_
  rcases bif_some h with ⟨c1, h⟩ | ⟨c2, h⟩
  · refine TS.cond (((s1.length : Nat) : Int) != ((s2.length : Nat) : Int)) ?_ (fun e => ?_) (fun e => by rw [c1] at e; cases e)
    · kernel_rfl
    refine TS.seq ?_
    have hq : (True) ∧ (True) := ⟨trivial, trivial⟩
    refine TS.reg [] ?_ ?_
    · apply prop_of ?_ hq
      kernel_rfl
    refine XS.then ?_
    refine TS.ret ?_
    refine XS.passR ?_
    obtain rfl : false = r := Option.some.inj h
    exact XS.fin [] ((True) ∧ (True)) (by kernel_rfl) ⟨trivial, trivial⟩
  · refine TS.cond (((s1.length : Nat) : Int) != ((s2.length : Nat) : Int)) ?_ (fun e => by rw [c2] at e; cases e) (fun e => ?_)
    · kernel_rfl
    refine TS.skip ?_
    refine XS.then ?_
    refine TS.seq ?_
    refine TS.seq ?_
    have hq : (True) ∧ ((True) ∧ ((True) ∧ (True))) := ⟨trivial, ⟨trivial, ⟨trivial, trivial⟩⟩⟩
    refine TS.reg [] ?_ ?_
    · apply prop_of ?_ hq
      kernel_rfl
    refine XS.then ?_
    refine TS.block ?_
    refine TS.reLoop [] (mkMask 26 [0, 1, 12, 13]) (D := Int) (fun d => match d with | x => (mkTs 26 [(0, (.sl .str s1)), (1, (.sl .str s2)), (12, (.int .i64 ((s1.length : Nat) : Int))), (13, (.int .i64 x))], [])) (fun n' d => loopF (F64_l2 n s1 s2) n' d = some r) n (0 : Int) h ?_ (fun d => loopF_zero _ d r) ?_
    · kernel_rfl
    · rintro n2 x h
      replace h : (bif (decide (x < ((s1.length : Nat) : Int))) then (bif inb x s1.length then (bif inb x s2.length then (bif (!((s1.getD x.toNat ([] : List UInt8)) == (s2.getD x.toNat ([] : List UInt8)))) then (some false) else ((loopF (F64_l2 n s1 s2) n2) (IntKind.wrap .i64 (x + (1 : Int))))) else none) else none) else (some true)) = some r := h
      refine TS.seq ?_
      have hq : (True) ∧ (True) := ⟨trivial, trivial⟩
      refine TS.reg [] ?_ ?_
      · apply prop_of ?_ hq
        kernel_rfl
      refine XS.then ?_
      refine TS.seq ?_
      rcases bif_some h with ⟨c3, h⟩ | ⟨c4, h⟩
      · refine TS.cond (decide (x < ((s1.length : Nat) : Int))) ?_ (fun e => ?_) (fun e => by rw [c3] at e; cases e)
        · kernel_rfl
        refine TS.skip ?_
        refine XS.then ?_
        refine TS.seq ?_
        refine TS.block ?_
        refine TS.seq ?_
        have hq : (True) ∧ ((True) ∧ (True)) := ⟨trivial, ⟨trivial, trivial⟩⟩
        refine TS.reg [] ?_ ?_
        · apply prop_of ?_ hq
          kernel_rfl
        refine XS.then ?_
        refine TS.seq ?_
        obtain ⟨t5, h⟩ := test_some h
        obtain ⟨t6, h⟩ := test_some h
        have hq : ((True) ∧ ((True) ∧ ((inR x s1.length) ∧ ((True) ∧ ((True) ∧ ((True) ∧ ((inR x s2.length) ∧ ((True) ∧ ((True) ∧ (True)))))))))) ∧ (True) := ⟨⟨trivial, ⟨trivial, ⟨inb_ok t5, ⟨trivial, ⟨trivial, ⟨trivial, ⟨inb_ok t6, ⟨trivial, ⟨trivial, trivial⟩⟩⟩⟩⟩⟩⟩⟩⟩, trivial⟩
        refine TS.draw 9 [] [] (by kernel_rfl) ?_ ?_
        · apply prop_of ?_ hq
          kernel_rfl
        refine XS.then ?_
        rcases bif_some h with ⟨c7, h⟩ | ⟨c8, h⟩
        · refine TS.cond (!((s1.getD x.toNat ([] : List UInt8)) == (s2.getD x.toNat ([] : List UInt8)))) ?_ (fun e => ?_) (fun e => by rw [c7] at e; cases e)
          · kernel_rfl
          refine TS.seq ?_
          have hq : (True) ∧ (True) := ⟨trivial, trivial⟩
          refine TS.reg [] ?_ ?_
          · apply prop_of ?_ hq
            kernel_rfl
          refine XS.then ?_
          refine TS.ret ?_
          refine XS.blockRet ?_
          refine XS.passR ?_
          refine XS.passR ?_
          refine XS.blockRet ?_
          refine XS.passR ?_
          obtain rfl : false = r := Option.some.inj h
          exact XS.fin [] ((True) ∧ (True)) (by kernel_rfl) ⟨trivial, trivial⟩
        · refine TS.cond (!((s1.getD x.toNat ([] : List UInt8)) == (s2.getD x.toNat ([] : List UInt8)))) ?_ (fun e => by rw [c8] at e; cases e) (fun e => ?_)
          · kernel_rfl
          refine TS.skip ?_
          refine XS.blockEnd ?_
          refine XS.then ?_
          have hq : (True) ∧ ((True) ∧ (True)) := ⟨trivial, ⟨trivial, trivial⟩⟩
          refine TS.reg [] ?_ ?_
          · apply prop_of ?_ hq
            kernel_rfl
          refine XS.reAny [] (mkMask 26 [0, 1, 12, 13]) (IntKind.wrap .i64 (x + (1 : Int))) h ?_
          kernel_rfl
      · refine TS.cond (decide (x < ((s1.length : Nat) : Int))) ?_ (fun e => by rw [c4] at e; cases e) (fun e => ?_)
        · kernel_rfl
        refine TS.exit ?_
        refine XS.passE ?_
        refine XS.passE ?_
        refine XS.out ?_
        refine XS.then ?_
        refine TS.seq ?_
        have hq : (True) ∧ (True) := ⟨trivial, trivial⟩
        refine TS.reg [] ?_ ?_
        · apply prop_of ?_ hq
          kernel_rfl
        refine XS.then ?_
        refine TS.ret ?_
        obtain rfl : true = r := Option.some.inj h
        exact XS.fin [] ((True) ∧ (True)) (by kernel_rfl) ⟨trivial, trivial⟩

/-! plugtree/pluglaw.StrikeSplits -/
def F14 (n : Nat) (text : List UInt8) (pieces : List (List UInt8)) (size : Int) : Option Bool := ((F60 n text size).bind fun y_2 => ((F61 n text size).bind fun y_3 => ((F62 n pieces size).bind fun y_4 => ((F63 n pieces size).bind fun y_5 => ((F64 n y_2.2 y_3.2).bind fun y_6 => (bif y_6 then (bif (y_2.1 == y_3.1) then (bif (y_4.1 == y_5.1) then (some (y_4.2 == y_5.2)) else (some false)) else (some false)) else (some false)))))))
theorem F14_ok (n : Nat) (text : List UInt8) (pieces : List (List UInt8)) (size : Int) (r : Bool) (h : F14 n text pieces size = some r) : PureC Try.prog 14 [(.str text), (.sl .str pieces), (.int .i64 size)] (.bool r) [] := by
  refine PureC.mkS Try.func14 rfl rfl ?_
  intro w0 fz0 hfz
  replace h : ((F60 n text size).bind fun y_2 => ((F61 n text size).bind fun y_3 => ((F62 n pieces size).bind fun y_4 => ((F63 n pieces size).bind fun y_5 => ((F64 n y_2.2 y_3.2).bind fun y_6 => (bif y_6 then (bif (y_2.1 == y_3.1) then (bif (y_4.1 == y_5.1) then (some (y_4.2 == y_5.2)) else (some false)) else (some false)) else (some false))))))) = some r := h
  refine TS.seq ?_
  have hq : (True) ∧ (True) := ⟨trivial, trivial⟩
  refine TS.reg [] ?_ ?_
  · apply prop_of ?_ hq
    kernel_rfl
  refine XS.then ?_
  refine TS.seq ?_
  obtain ⟨y_2, hx1, h⟩ := bind_some' h
  have hq : (True) ∧ ((True) ∧ ((PureC Try.prog 60 [(.str text), (.int .i64 size)] (.tup (.cons (.row 0) (.cons (.int .i64 y_2.1) .nil))) [(.row 9 .str y_2.2)]) ∧ ((True) ∧ ((True) ∧ ((True) ∧ ((True) ∧ ((True) ∧ (True)))))))) := ⟨trivial, ⟨trivial, ⟨F60_ok n text size y_2 hx1, ⟨trivial, ⟨trivial, ⟨trivial, ⟨trivial, ⟨trivial, trivial⟩⟩⟩⟩⟩⟩⟩⟩
  refine TS.reg [.none, .none, (.call (.tup (.cons (.row 0) (.cons (.int .i64 y_2.1) .nil))) [(.row 9 .str y_2.2)])] ?_ ?_
  · apply prop_of ?_ hq
    kernel_rfl
  refine XS.then ?_
  refine TS.seq ?_
  obtain ⟨y_3, hx2, h⟩ := bind_some' h
  have hq : (True) ∧ ((True) ∧ ((PureC Try.prog 61 [(.str text), (.int .i64 size)] (.tup (.cons (.row 0) (.cons (.int .i64 y_3.1) .nil))) [(.row 9 .str y_3.2)]) ∧ ((True) ∧ ((True) ∧ ((True) ∧ ((True) ∧ ((True) ∧ (True)))))))) := ⟨trivial, ⟨trivial, ⟨F61_ok n text size y_3 hx2, ⟨trivial, ⟨trivial, ⟨trivial, ⟨trivial, ⟨trivial, trivial⟩⟩⟩⟩⟩⟩⟩⟩
  refine TS.reg [.none, .none, (.call (.tup (.cons (.row 0) (.cons (.int .i64 y_3.1) .nil))) [(.row 9 .str y_3.2)])] ?_ ?_
  · apply prop_of ?_ hq
    kernel_rfl
  refine XS.then ?_
  refine TS.seq ?_
  obtain ⟨y_4, hx3, h⟩ := bind_some' h
  have hq : (True) ∧ ((True) ∧ ((PureC Try.prog 62 [(.sl .str pieces), (.int .i64 size)] (.tup (.cons (.str y_4.1) (.cons (.int .i64 y_4.2) .nil))) []) ∧ ((True) ∧ ((True) ∧ ((True) ∧ ((True) ∧ ((True) ∧ (True)))))))) := ⟨trivial, ⟨trivial, ⟨F62_ok n pieces size y_4 hx3, ⟨trivial, ⟨trivial, ⟨trivial, ⟨trivial, ⟨trivial, trivial⟩⟩⟩⟩⟩⟩⟩⟩
  refine TS.reg [.none, .none, (.call (.tup (.cons (.str y_4.1) (.cons (.int .i64 y_4.2) .nil))) [])] ?_ ?_
  · apply prop_of ?_ hq
    kernel_rfl
  refine XS.then ?_
  refine TS.seq ?_
  obtain ⟨y_5, hx4, h⟩ := bind_some' h
  have hq : (True) ∧ ((True) ∧ ((PureC Try.prog 63 [(.sl .str pieces), (.int .i64 size)] (.tup (.cons (.str y_5.1) (.cons (.int .i64 y_5.2) .nil))) []) ∧ ((True) ∧ ((True) ∧ ((True) ∧ ((True) ∧ ((True) ∧ (True)))))))) := ⟨trivial, ⟨trivial, ⟨F63_ok n pieces size y_5 hx4, ⟨trivial, ⟨trivial, ⟨trivial, ⟨trivial, ⟨trivial, trivial⟩⟩⟩⟩⟩⟩⟩⟩
  refine TS.reg [.none, .none, (.call (.tup (.cons (.str y_5.1) (.cons (.int .i64 y_5.2) .nil))) [])] ?_ ?_
  · apply prop_of ?_ hq
    kernel_rfl
  refine XS.then ?_
  refine TS.seq ?_
  obtain ⟨y_6, hx5, h⟩ := bind_some' h
  rcases bif_some h with ⟨c6, h⟩ | ⟨c7, h⟩
  · rcases bif_some h with ⟨c8, h⟩ | ⟨c9, h⟩
    · rcases bif_some h with ⟨c10, h⟩ | ⟨c11, h⟩
      · have hq : (True) ∧ ((True) ∧ ((((True) ∧ ((True) ∧ (True))) ∧ PureC Try.prog 64 [(.sl .str y_2.2), (.sl .str y_3.2)] (.bool y_6) []) ∧ (((True) ∧ y_6 = true) ∧ ((True) ∧ ((True) ∧ ((True) ∧ ((True) ∧ (((True) ∧ (y_2.1 == y_3.1) = true) ∧ ((True) ∧ ((True) ∧ ((True) ∧ ((True) ∧ (((True) ∧ (y_4.1 == y_5.1) = true) ∧ ((True) ∧ ((True) ∧ ((True) ∧ ((True) ∧ ((True) ∧ (True))))))))))))))))))) := ⟨trivial, ⟨trivial, ⟨⟨⟨trivial, ⟨trivial, trivial⟩⟩, F64_ok n y_2.2 y_3.2 y_6 hx5⟩, ⟨⟨trivial, c6⟩, ⟨trivial, ⟨trivial, ⟨trivial, ⟨trivial, ⟨⟨trivial, c8⟩, ⟨trivial, ⟨trivial, ⟨trivial, ⟨trivial, ⟨⟨trivial, c10⟩, ⟨trivial, ⟨trivial, ⟨trivial, ⟨trivial, ⟨trivial, trivial⟩⟩⟩⟩⟩⟩⟩⟩⟩⟩⟩⟩⟩⟩⟩⟩⟩⟩⟩
        refine TS.reg [.none, .none, (.call (.bool y_6) []), .dec true, .none, .none, .none, .none, .dec true, .none, .none, .none, .none, .dec true] ?_ ?_
        · apply prop_of ?_ hq
          kernel_rfl
        refine XS.then ?_
        refine TS.ret ?_
        obtain rfl : (y_4.2 == y_5.2) = r := Option.some.inj h
        exact XS.fin [] ((True) ∧ (True)) (by kernel_rfl) ⟨trivial, trivial⟩
      · have hq : (True) ∧ ((True) ∧ ((((True) ∧ ((True) ∧ (True))) ∧ PureC Try.prog 64 [(.sl .str y_2.2), (.sl .str y_3.2)] (.bool y_6) []) ∧ (((True) ∧ y_6 = true) ∧ ((True) ∧ ((True) ∧ ((True) ∧ ((True) ∧ (((True) ∧ (y_2.1 == y_3.1) = true) ∧ ((True) ∧ ((True) ∧ ((True) ∧ ((True) ∧ (((True) ∧ (y_4.1 == y_5.1) = false) ∧ ((True) ∧ ((True) ∧ (True)))))))))))))))) := ⟨trivial, ⟨trivial, ⟨⟨⟨trivial, ⟨trivial, trivial⟩⟩, F64_ok n y_2.2 y_3.2 y_6 hx5⟩, ⟨⟨trivial, c6⟩, ⟨trivial, ⟨trivial, ⟨trivial, ⟨trivial, ⟨⟨trivial, c8⟩, ⟨trivial, ⟨trivial, ⟨trivial, ⟨trivial, ⟨⟨trivial, c11⟩, ⟨trivial, ⟨trivial, trivial⟩⟩⟩⟩⟩⟩⟩⟩⟩⟩⟩⟩⟩⟩⟩⟩
        refine TS.reg [.none, .none, (.call (.bool y_6) []), .dec true, .none, .none, .none, .none, .dec true, .none, .none, .none, .none, .dec false] ?_ ?_
        · apply prop_of ?_ hq
          kernel_rfl
        refine XS.then ?_
        refine TS.ret ?_
        obtain rfl : false = r := Option.some.inj h
        exact XS.fin [] ((True) ∧ (True)) (by kernel_rfl) ⟨trivial, trivial⟩
    · have hq : (True) ∧ ((True) ∧ ((((True) ∧ ((True) ∧ (True))) ∧ PureC Try.prog 64 [(.sl .str y_2.2), (.sl .str y_3.2)] (.bool y_6) []) ∧ (((True) ∧ y_6 = true) ∧ ((True) ∧ ((True) ∧ ((True) ∧ ((True) ∧ (((True) ∧ (y_2.1 == y_3.1) = false) ∧ ((True) ∧ ((True) ∧ ((True) ∧ ((True) ∧ (True))))))))))))) := ⟨trivial, ⟨trivial, ⟨⟨⟨trivial, ⟨trivial, trivial⟩⟩, F64_ok n y_2.2 y_3.2 y_6 hx5⟩, ⟨⟨trivial, c6⟩, ⟨trivial, ⟨trivial, ⟨trivial, ⟨trivial, ⟨⟨trivial, c9⟩, ⟨trivial, ⟨trivial, ⟨trivial, ⟨trivial, trivial⟩⟩⟩⟩⟩⟩⟩⟩⟩⟩⟩⟩⟩
      refine TS.reg [.none, .none, (.call (.bool y_6) []), .dec true, .none, .none, .none, .none, .dec false] ?_ ?_
      · apply prop_of ?_ hq
        kernel_rfl
      refine XS.then ?_
      refine TS.ret ?_
      obtain rfl : false = r := Option.some.inj h
      exact XS.fin [] ((True) ∧ (True)) (by kernel_rfl) ⟨trivial, trivial⟩
  · have hq : (True) ∧ ((True) ∧ ((((True) ∧ ((True) ∧ (True))) ∧ PureC Try.prog 64 [(.sl .str y_2.2), (.sl .str y_3.2)] (.bool y_6) []) ∧ (((True) ∧ y_6 = false) ∧ ((True) ∧ ((True) ∧ ((True) ∧ ((True) ∧ ((True) ∧ ((True) ∧ (True)))))))))) := ⟨trivial, ⟨trivial, ⟨⟨⟨trivial, ⟨trivial, trivial⟩⟩, F64_ok n y_2.2 y_3.2 y_6 hx5⟩, ⟨⟨trivial, c7⟩, ⟨trivial, ⟨trivial, ⟨trivial, ⟨trivial, ⟨trivial, ⟨trivial, trivial⟩⟩⟩⟩⟩⟩⟩⟩⟩⟩
    refine TS.reg [.none, .none, (.call (.bool y_6) []), .dec false] ?_ ?_
    · apply prop_of ?_ hq
      kernel_rfl
    refine XS.then ?_
    refine TS.ret ?_
    obtain rfl : false = r := Option.some.inj h
    exact XS.fin [] ((True) ∧ (True)) (by kernel_rfl) ⟨trivial, trivial⟩
end Go.Proofs.Ytgcdohclbkmmdaa
