/- Functions of the program, as functions of values. -/
import Derived.Test.YtmcjcioifgaihaaAm28
import Derived.Test.YtmcjcioifgaihaaShelf
import Derived.Test.YtmcjcioifgaihaaChecked
namespace Go.Proofs.Ytmcjcioifgaihaa
open Go Go.RowKit
set_option linter.unusedVariables false
set_option maxRecDepth 100000

/-! plugtree/strike.Split -/
def F147_l2 (n : Nat) (size : Int) (k147_2 : ((List UInt8) × (List (List UInt8))) → Option (Int × (List (List UInt8)))) : ((List UInt8) × (List (List UInt8))) → Option (Int × (List (List UInt8)))
  | (text_2, m0) => (bif (decide (((text_2.length : Nat) : Int) ≥ size)) then (bif subB text_2.length none (some size) then (bif (decide (m0.length + [(text_2.take size.toNat)].length ≤ 17179869184)) then (bif subB text_2.length (some size) none then (k147_2 ((text_2.drop size.toNat), (m0 ++ [(text_2.take size.toNat)]))) else none) else none) else none) else (bif (decide (m0.length + [text_2].length ≤ 17179869184)) then (some ((0 : Int), (m0 ++ [text_2]))) else none))
def F147 (n : Nat) (text : List UInt8) (size : Int) : Option (Int × (List (List UInt8))) := (bif (decide (size < (1 : Int))) then (some ((1 : Int), ([] : List (List UInt8)))) else (bif (decide (size > (64 : Int))) then (some ((1 : Int), ([] : List (List UInt8)))) else (bif (decide (((text.length : Nat) : Int) > (4096 : Int))) then (some ((2 : Int), ([] : List (List UInt8)))) else (loopF (F147_l2 n size) n (text, ([] : List (List UInt8)))))))
theorem F147_ok (n : Nat) (text : List UInt8) (size : Int) (r : Int × (List (List UInt8))) (h : F147 n text size = some r) : PureC Try.prog 147 [(.str text), (.int .i64 size)] (.tup (.cons (.row 0) (.cons (.int .i64 r.1) .nil))) [(.row 9 .str r.2)] := by
  refine PureC.mkS Try.func147 rfl rfl ?_
  intro w0 fz0 hfz
  replace h : (bif (decide (size < (1 : Int))) then (some ((1 : Int), ([] : List (List UInt8)))) else (bif (decide (size > (64 : Int))) then (some ((1 : Int), ([] : List (List UInt8)))) else (bif (decide (((text.length : Nat) : Int) > (4096 : Int))) then (some ((2 : Int), ([] : List (List UInt8)))) else (loopF (F147_l2 n size) n (text, ([] : List (List UInt8))))))) = some r := h
  refine TS.seq ?_
  have hq : (True) ∧ ((True) ∧ (True)) := ⟨trivial, ⟨trivial, trivial⟩⟩
  refine TS.reg [] ?_ ?_
  · apply prop_of ?_ hq
    kernel_rfl
  refine XS.then ?_
  refine TS.seq ?_
  refine TS.block ?_
  refine TS.seq ?_
  rcases bif_some h with ⟨c1, h⟩ | ⟨c2, h⟩
  · have hq : (True) ∧ ((True) ∧ (((True) ∧ (decide (size < (1 : Int))) = true) ∧ ((True) ∧ ((True) ∧ (True))))) := ⟨trivial, ⟨trivial, ⟨⟨trivial, c1⟩, ⟨trivial, ⟨trivial, trivial⟩⟩⟩⟩⟩
    refine TS.reg [.none, .none, .dec true] ?_ ?_
    · apply prop_of ?_ hq
      kernel_rfl
    refine XS.then ?_
    refine TS.yes ?_ ?_
    · kernel_rfl
    refine TS.seq ?_
    have hq : (True) ∧ ((True) ∧ (True)) := ⟨trivial, ⟨trivial, trivial⟩⟩
    refine TS.reg [] ?_ ?_
    · apply prop_of ?_ hq
      kernel_rfl
    refine XS.then ?_
    refine TS.ret ?_
    refine XS.blockRet ?_
    refine XS.passR ?_
    obtain rfl : ((1 : Int), ([] : List (List UInt8))) = r := Option.some.inj h
    refine XS.wk (.row false 4 [] 9 .str) ?_
    exact XS.fin [0] ((True) ∧ ((True) ∧ (True))) (by kernel_rfl) ⟨trivial, ⟨trivial, trivial⟩⟩
  · have hq : (True) ∧ ((True) ∧ (((True) ∧ (decide (size < (1 : Int))) = false) ∧ ((True) ∧ ((True) ∧ ((True) ∧ ((True) ∧ (True))))))) := ⟨trivial, ⟨trivial, ⟨⟨trivial, c2⟩, ⟨trivial, ⟨trivial, ⟨trivial, ⟨trivial, trivial⟩⟩⟩⟩⟩⟩⟩
    refine TS.reg [.none, .none, .dec false] ?_ ?_
    · apply prop_of ?_ hq
      kernel_rfl
    refine XS.then ?_
    rcases bif_some h with ⟨c3, h⟩ | ⟨c4, h⟩
    · refine TS.cond (decide (size > (64 : Int))) ?_ (fun hcz => ?_) (fun hcz => by rw [c3] at hcz; cases hcz)
      · kernel_rfl
      refine TS.seq ?_
      have hq : (True) ∧ ((True) ∧ (True)) := ⟨trivial, ⟨trivial, trivial⟩⟩
      refine TS.reg [] ?_ ?_
      · apply prop_of ?_ hq
        kernel_rfl
      refine XS.then ?_
      refine TS.ret ?_
      refine XS.blockRet ?_
      refine XS.passR ?_
      obtain rfl : ((1 : Int), ([] : List (List UInt8))) = r := Option.some.inj h
      refine XS.wk (.row false 4 [] 9 .str) ?_
      exact XS.fin [0] ((True) ∧ ((True) ∧ (True))) (by kernel_rfl) ⟨trivial, ⟨trivial, trivial⟩⟩
    · refine TS.cond (decide (size > (64 : Int))) ?_ (fun hcz => by rw [c4] at hcz; cases hcz) (fun hcz => ?_)
      · kernel_rfl
      refine TS.seq ?_
      have hq : (True) ∧ ((True) ∧ ((True) ∧ ((True) ∧ (True)))) := ⟨trivial, ⟨trivial, ⟨trivial, ⟨trivial, trivial⟩⟩⟩⟩
      refine TS.reg [] ?_ ?_
      · apply prop_of ?_ hq
        kernel_rfl
      refine XS.then ?_
      rcases bif_some h with ⟨c5, h⟩ | ⟨c6, h⟩
      · refine TS.cond (decide (((text.length : Nat) : Int) > (4096 : Int))) ?_ (fun hcz => ?_) (fun hcz => by rw [c5] at hcz; cases hcz)
        · kernel_rfl
        refine TS.seq ?_
        have hq : (True) ∧ ((True) ∧ (True)) := ⟨trivial, ⟨trivial, trivial⟩⟩
        refine TS.reg [] ?_ ?_
        · apply prop_of ?_ hq
          kernel_rfl
        refine XS.then ?_
        refine TS.ret ?_
        refine XS.blockRet ?_
        refine XS.passR ?_
        obtain rfl : ((2 : Int), ([] : List (List UInt8))) = r := Option.some.inj h
        refine XS.wk (.row false 4 [] 9 .str) ?_
        exact XS.fin [0] ((True) ∧ ((True) ∧ (True))) (by kernel_rfl) ⟨trivial, ⟨trivial, trivial⟩⟩
      · refine TS.cond (decide (((text.length : Nat) : Int) > (4096 : Int))) ?_ (fun hcz => by rw [c6] at hcz; cases hcz) (fun hcz => ?_)
        · kernel_rfl
        refine TS.skip ?_
        refine XS.blockEnd ?_
        refine XS.then ?_
        refine TS.seq ?_
        have hq : (True) ∧ (True) := ⟨trivial, trivial⟩
        refine TS.reg [] ?_ ?_
        · apply prop_of ?_ hq
          kernel_rfl
        refine XS.then ?_
        refine TS.seq ?_
        refine TS.block ?_
        refine TS.wk (.row false 6 [] 9 .str) ?_
        refine TS.reLoop [0] (mkMask 35 [0, 1, 6]) (D := (List UInt8) × (List (List UInt8))) (fun d => match d with | (text_2, m0) => (mkTs 35 [(0, (.str text_2)), (1, (.int .i64 size)), (6, (.row 0))], [(.row 9 .str m0)])) (fun n' d => loopF (F147_l2 n size) n' d = some r) n (text, ([] : List (List UInt8))) h ?_ (fun d => loopF_zero _ d r) ?_
        · kernel_rfl
        · rintro n2 ⟨text_2, m0⟩ h
          replace h : (bif (decide (((text_2.length : Nat) : Int) ≥ size)) then (bif subB text_2.length none (some size) then (bif (decide (m0.length + [(text_2.take size.toNat)].length ≤ 17179869184)) then (bif subB text_2.length (some size) none then ((loopF (F147_l2 n size) n2) ((text_2.drop size.toNat), (m0 ++ [(text_2.take size.toNat)]))) else none) else none) else none) else (bif (decide (m0.length + [text_2].length ≤ 17179869184)) then (some ((0 : Int), (m0 ++ [text_2]))) else none)) = some r := h
          refine TS.seq ?_
          refine TS.seq ?_
          have hq : (True) ∧ ((True) ∧ ((True) ∧ ((True) ∧ (True)))) := ⟨trivial, ⟨trivial, ⟨trivial, ⟨trivial, trivial⟩⟩⟩⟩
          refine TS.reg [] ?_ ?_
          · apply prop_of ?_ hq
            kernel_rfl
          refine XS.then ?_
          rcases bif_some h with ⟨c7, h⟩ | ⟨c8, h⟩
          · refine TS.cond (decide (((text_2.length : Nat) : Int) ≥ size)) ?_ (fun hcz => ?_) (fun hcz => by rw [c7] at hcz; cases hcz)
            · kernel_rfl
            refine TS.skip ?_
            refine XS.then ?_
            refine TS.block ?_
            refine TS.seq ?_
            obtain ⟨t9, h⟩ := test_some h
            obtain ⟨t10, h⟩ := test_some h
            have hq : (True) ∧ ((True) ∧ ((True) ∧ ((subC text_2.length none (some size)) ∧ (((0 < 1 ∧ True) ∧ (True)) ∧ ((m0.length + [(text_2.take size.toNat)].length ≤ 17179869184) ∧ ((True) ∧ (True))))))) := ⟨trivial, ⟨trivial, ⟨trivial, ⟨subB_ok t9, ⟨⟨⟨by decide, trivial⟩, trivial⟩, ⟨of_decide_eq_true t10, ⟨trivial, trivial⟩⟩⟩⟩⟩⟩⟩
            refine TS.reg [] ?_ ?_
            · apply prop_of ?_ hq
              kernel_rfl
            refine XS.then ?_
            obtain ⟨t11, h⟩ := test_some h
            have hq : (True) ∧ ((True) ∧ ((subC text_2.length (some size) none) ∧ ((True) ∧ (True)))) := ⟨trivial, ⟨trivial, ⟨subB_ok t11, ⟨trivial, trivial⟩⟩⟩⟩
            refine TS.reg [] ?_ ?_
            · apply prop_of ?_ hq
              kernel_rfl
            refine XS.blockEnd ?_
            refine XS.reAny [2] (mkMask 35 [0, 1, 6]) ((text_2.drop size.toNat), (m0 ++ [(text_2.take size.toNat)])) h ?_
            kernel_rfl
          · refine TS.cond (decide (((text_2.length : Nat) : Int) ≥ size)) ?_ (fun hcz => by rw [c8] at hcz; cases hcz) (fun hcz => ?_)
            · kernel_rfl
            refine TS.exit ?_
            refine XS.passE ?_
            refine XS.passE ?_
            refine XS.out ?_
            refine XS.then ?_
            refine TS.seq ?_
            obtain ⟨t12, h⟩ := test_some h
            have hq : (True) ∧ ((True) ∧ (((0 < 1 ∧ True) ∧ (True)) ∧ ((m0.length + [text_2].length ≤ 17179869184) ∧ ((True) ∧ ((True) ∧ (True)))))) := ⟨trivial, ⟨trivial, ⟨⟨⟨by decide, trivial⟩, trivial⟩, ⟨of_decide_eq_true t12, ⟨trivial, ⟨trivial, trivial⟩⟩⟩⟩⟩⟩
            refine TS.reg [] ?_ ?_
            · apply prop_of ?_ hq
              kernel_rfl
            refine XS.then ?_
            refine TS.ret ?_
            obtain rfl : ((0 : Int), (m0 ++ [text_2])) = r := Option.some.inj h
            exact XS.fin [2] ((True) ∧ ((True) ∧ (True))) (by kernel_rfl) ⟨trivial, ⟨trivial, trivial⟩⟩

/-! plugtree/strike.arguments -/
def F83_l2 (n : Nat) (fates : List Int) (y_3 : Int × (List (List UInt8))) (k83_2 : Int → Option (Int × (List (List UInt8)))) : Int → Option (Int × (List (List UInt8)))
  | x => (bif (decide (x < ((fates.length : Nat) : Int))) then (bif inb x fates.length then (bif (decide ((fates.getD x.toNat (0 : Int)) < (1 : Int))) then (some ((1 : Int), ([] : List (List UInt8)))) else (bif (decide ((fates.getD x.toNat (0 : Int)) > (5 : Int))) then (some ((1 : Int), ([] : List (List UInt8)))) else (k83_2 (IntKind.wrap .i64 (x + (1 : Int)))))) else none) else (some ((0 : Int), y_3.2)))
def F83 (n : Nat) (text : List UInt8) (size : Int) (fates : List Int) : Option (Int × (List (List UInt8))) := ((F147 n text size).bind fun y_3 => (bif (y_3.1 != (0 : Int)) then (some (y_3.1, ([] : List (List UInt8)))) else (bif (decide (((y_3.2.length : Nat) : Int) > (200 : Int))) then (some ((2 : Int), ([] : List (List UInt8)))) else (bif (decide (((fates.length : Nat) : Int) > (1000 : Int))) then (some ((2 : Int), ([] : List (List UInt8)))) else (loopF (F83_l2 n fates y_3) n (0 : Int))))))
theorem F83_ok (n : Nat) (text : List UInt8) (size : Int) (fates : List Int) (r : Int × (List (List UInt8))) (h : F83 n text size fates = some r) : PureC Try.prog 83 [(.str text), (.int .i64 size), (.sl (.int .i64) fates)] (.tup (.cons (.row 0) (.cons (.int .i64 r.1) .nil))) [(.row 9 .str r.2)] := by
  refine PureC.mkS Try.func83 rfl rfl ?_
  intro w0 fz0 hfz
  replace h : ((F147 n text size).bind fun y_3 => (bif (y_3.1 != (0 : Int)) then (some (y_3.1, ([] : List (List UInt8)))) else (bif (decide (((y_3.2.length : Nat) : Int) > (200 : Int))) then (some ((2 : Int), ([] : List (List UInt8)))) else (bif (decide (((fates.length : Nat) : Int) > (1000 : Int))) then (some ((2 : Int), ([] : List (List UInt8)))) else (loopF (F83_l2 n fates y_3) n (0 : Int)))))) = some r := h
  refine TS.seq ?_
  have hq : (True) ∧ ((True) ∧ (True)) := ⟨trivial, ⟨trivial, trivial⟩⟩
  refine TS.reg [] ?_ ?_
  · apply prop_of ?_ hq
    kernel_rfl
  refine XS.then ?_
  refine TS.seq ?_
  obtain ⟨y_3, hx1, h⟩ := bind_some' h
  have hq : (True) ∧ ((True) ∧ ((PureC Try.prog 147 [(.str text), (.int .i64 size)] (.tup (.cons (.row 0) (.cons (.int .i64 y_3.1) .nil))) [(.row 9 .str y_3.2)]) ∧ ((True) ∧ ((True) ∧ ((True) ∧ ((True) ∧ ((True) ∧ (True)))))))) := ⟨trivial, ⟨trivial, ⟨F147_ok n text size y_3 hx1, ⟨trivial, ⟨trivial, ⟨trivial, ⟨trivial, ⟨trivial, trivial⟩⟩⟩⟩⟩⟩⟩⟩
  refine TS.reg [.none, .none, (.call (.tup (.cons (.row 0) (.cons (.int .i64 y_3.1) .nil))) [(.row 9 .str y_3.2)])] ?_ ?_
  · apply prop_of ?_ hq
    kernel_rfl
  refine XS.then ?_
  refine TS.seq ?_
  refine TS.block ?_
  refine TS.seq ?_
  have hq : (True) ∧ ((True) ∧ ((True) ∧ (True))) := ⟨trivial, ⟨trivial, ⟨trivial, trivial⟩⟩⟩
  refine TS.reg [] ?_ ?_
  · apply prop_of ?_ hq
    kernel_rfl
  refine XS.then ?_
  rcases bif_some h with ⟨c2, h⟩ | ⟨c3, h⟩
  · refine TS.cond (y_3.1 != (0 : Int)) ?_ (fun hcz => ?_) (fun hcz => by rw [c2] at hcz; cases hcz)
    · kernel_rfl
    refine TS.seq ?_
    have hq : (True) ∧ ((True) ∧ ((True) ∧ (True))) := ⟨trivial, ⟨trivial, ⟨trivial, trivial⟩⟩⟩
    refine TS.reg [] ?_ ?_
    · apply prop_of ?_ hq
      kernel_rfl
    refine XS.then ?_
    refine TS.ret ?_
    refine XS.blockRet ?_
    refine XS.passR ?_
    obtain rfl : (y_3.1, ([] : List (List UInt8))) = r := Option.some.inj h
    refine XS.wk (.row false 6 [] 9 .str) ?_
    exact XS.fin [1] ((True) ∧ ((True) ∧ (True))) (by kernel_rfl) ⟨trivial, ⟨trivial, trivial⟩⟩
  · refine TS.cond (y_3.1 != (0 : Int)) ?_ (fun hcz => by rw [c3] at hcz; cases hcz) (fun hcz => ?_)
    · kernel_rfl
    refine TS.seq ?_
    rcases bif_some h with ⟨c4, h⟩ | ⟨c5, h⟩
    · have hq : (True) ∧ ((True) ∧ ((True) ∧ (((True) ∧ (decide (((y_3.2.length : Nat) : Int) > (200 : Int))) = true) ∧ ((True) ∧ ((True) ∧ (True)))))) := ⟨trivial, ⟨trivial, ⟨trivial, ⟨⟨trivial, c4⟩, ⟨trivial, ⟨trivial, trivial⟩⟩⟩⟩⟩⟩
      refine TS.reg [.none, .none, .none, .dec true] ?_ ?_
      · apply prop_of ?_ hq
        kernel_rfl
      refine XS.then ?_
      refine TS.yes ?_ ?_
      · kernel_rfl
      refine TS.seq ?_
      have hq : (True) ∧ ((True) ∧ (True)) := ⟨trivial, ⟨trivial, trivial⟩⟩
      refine TS.reg [] ?_ ?_
      · apply prop_of ?_ hq
        kernel_rfl
      refine XS.then ?_
      refine TS.ret ?_
      refine XS.blockRet ?_
      refine XS.passR ?_
      obtain rfl : ((2 : Int), ([] : List (List UInt8))) = r := Option.some.inj h
      refine XS.wk (.row false 6 [] 9 .str) ?_
      exact XS.fin [1] ((True) ∧ ((True) ∧ (True))) (by kernel_rfl) ⟨trivial, ⟨trivial, trivial⟩⟩
    · have hq : (True) ∧ ((True) ∧ ((True) ∧ (((True) ∧ (decide (((y_3.2.length : Nat) : Int) > (200 : Int))) = false) ∧ ((True) ∧ ((True) ∧ ((True) ∧ ((True) ∧ ((True) ∧ (True))))))))) := ⟨trivial, ⟨trivial, ⟨trivial, ⟨⟨trivial, c5⟩, ⟨trivial, ⟨trivial, ⟨trivial, ⟨trivial, ⟨trivial, trivial⟩⟩⟩⟩⟩⟩⟩⟩⟩
      refine TS.reg [.none, .none, .none, .dec false] ?_ ?_
      · apply prop_of ?_ hq
        kernel_rfl
      refine XS.then ?_
      rcases bif_some h with ⟨c6, h⟩ | ⟨c7, h⟩
      · refine TS.cond (decide (((fates.length : Nat) : Int) > (1000 : Int))) ?_ (fun hcz => ?_) (fun hcz => by rw [c6] at hcz; cases hcz)
        · kernel_rfl
        refine TS.seq ?_
        have hq : (True) ∧ ((True) ∧ (True)) := ⟨trivial, ⟨trivial, trivial⟩⟩
        refine TS.reg [] ?_ ?_
        · apply prop_of ?_ hq
          kernel_rfl
        refine XS.then ?_
        refine TS.ret ?_
        refine XS.blockRet ?_
        refine XS.passR ?_
        obtain rfl : ((2 : Int), ([] : List (List UInt8))) = r := Option.some.inj h
        refine XS.wk (.row false 6 [] 9 .str) ?_
        exact XS.fin [1] ((True) ∧ ((True) ∧ (True))) (by kernel_rfl) ⟨trivial, ⟨trivial, trivial⟩⟩
      · refine TS.cond (decide (((fates.length : Nat) : Int) > (1000 : Int))) ?_ (fun hcz => by rw [c7] at hcz; cases hcz) (fun hcz => ?_)
        · kernel_rfl
        refine TS.skip ?_
        refine XS.blockEnd ?_
        refine XS.then ?_
        refine TS.seq ?_
        refine TS.seq ?_
        have hq : (True) ∧ ((True) ∧ ((True) ∧ (True))) := ⟨trivial, ⟨trivial, ⟨trivial, trivial⟩⟩⟩
        refine TS.reg [] ?_ ?_
        · apply prop_of ?_ hq
          kernel_rfl
        refine XS.then ?_
        refine TS.block ?_
        refine TS.reLoop [0] (mkMask 45 [8, 31, 32, 33]) (D := Int) (fun d => match d with | x => (mkTs 45 [(8, (.row 0)), (31, (.sl (.int .i64) fates)), (32, (.int .i64 ((fates.length : Nat) : Int))), (33, (.int .i64 x))], [(.row 9 .str y_3.2)])) (fun n' d => loopF (F83_l2 n fates y_3) n' d = some r) n (0 : Int) h ?_ (fun d => loopF_zero _ d r) ?_
        · kernel_rfl
        · rintro n2 x h
          replace h : (bif (decide (x < ((fates.length : Nat) : Int))) then (bif inb x fates.length then (bif (decide ((fates.getD x.toNat (0 : Int)) < (1 : Int))) then (some ((1 : Int), ([] : List (List UInt8)))) else (bif (decide ((fates.getD x.toNat (0 : Int)) > (5 : Int))) then (some ((1 : Int), ([] : List (List UInt8)))) else ((loopF (F83_l2 n fates y_3) n2) (IntKind.wrap .i64 (x + (1 : Int)))))) else none) else (some ((0 : Int), y_3.2))) = some r := h
          refine TS.seq ?_
          have hq : (True) ∧ (True) := ⟨trivial, trivial⟩
          refine TS.reg [] ?_ ?_
          · apply prop_of ?_ hq
            kernel_rfl
          refine XS.then ?_
          refine TS.seq ?_
          rcases bif_some h with ⟨c8, h⟩ | ⟨c9, h⟩
          · refine TS.cond (decide (x < ((fates.length : Nat) : Int))) ?_ (fun hcz => ?_) (fun hcz => by rw [c8] at hcz; cases hcz)
            · kernel_rfl
            refine TS.skip ?_
            refine XS.then ?_
            refine TS.seq ?_
            refine TS.block ?_
            refine TS.seq ?_
            obtain ⟨t10, h⟩ := test_some h
            have hq : (inR x fates.length) ∧ ((True) ∧ ((True) ∧ (True))) := ⟨inb_ok t10, ⟨trivial, ⟨trivial, trivial⟩⟩⟩
            refine TS.reg [] ?_ ?_
            · apply prop_of ?_ hq
              kernel_rfl
            refine XS.then ?_
            refine TS.seq ?_
            rcases bif_some h with ⟨c11, h⟩ | ⟨c12, h⟩
            · have hq : (True) ∧ ((True) ∧ (((True) ∧ (decide ((fates.getD x.toNat (0 : Int)) < (1 : Int))) = true) ∧ ((True) ∧ (True)))) := ⟨trivial, ⟨trivial, ⟨⟨trivial, c11⟩, ⟨trivial, trivial⟩⟩⟩⟩
              refine TS.reg [.none, .none, .dec true] ?_ ?_
              · apply prop_of ?_ hq
                kernel_rfl
              refine XS.then ?_
              refine TS.yes ?_ ?_
              · kernel_rfl
              refine TS.seq ?_
              have hq : (True) ∧ ((True) ∧ (True)) := ⟨trivial, ⟨trivial, trivial⟩⟩
              refine TS.reg [] ?_ ?_
              · apply prop_of ?_ hq
                kernel_rfl
              refine XS.then ?_
              refine TS.ret ?_
              refine XS.blockRet ?_
              refine XS.passR ?_
              refine XS.passR ?_
              refine XS.blockRet ?_
              refine XS.passR ?_
              obtain rfl : ((1 : Int), ([] : List (List UInt8))) = r := Option.some.inj h
              refine XS.wk (.row false 6 [] 9 .str) ?_
              exact XS.fin [1] ((True) ∧ ((True) ∧ (True))) (by kernel_rfl) ⟨trivial, ⟨trivial, trivial⟩⟩
            · have hq : (True) ∧ ((True) ∧ (((True) ∧ (decide ((fates.getD x.toNat (0 : Int)) < (1 : Int))) = false) ∧ ((True) ∧ ((True) ∧ ((True) ∧ (True)))))) := ⟨trivial, ⟨trivial, ⟨⟨trivial, c12⟩, ⟨trivial, ⟨trivial, ⟨trivial, trivial⟩⟩⟩⟩⟩⟩
              refine TS.reg [.none, .none, .dec false] ?_ ?_
              · apply prop_of ?_ hq
                kernel_rfl
              refine XS.then ?_
              rcases bif_some h with ⟨c13, h⟩ | ⟨c14, h⟩
              · refine TS.cond (decide ((fates.getD x.toNat (0 : Int)) > (5 : Int))) ?_ (fun hcz => ?_) (fun hcz => by rw [c13] at hcz; cases hcz)
                · kernel_rfl
                refine TS.seq ?_
                have hq : (True) ∧ ((True) ∧ (True)) := ⟨trivial, ⟨trivial, trivial⟩⟩
                refine TS.reg [] ?_ ?_
                · apply prop_of ?_ hq
                  kernel_rfl
                refine XS.then ?_
                refine TS.ret ?_
                refine XS.blockRet ?_
                refine XS.passR ?_
                refine XS.passR ?_
                refine XS.blockRet ?_
                refine XS.passR ?_
                obtain rfl : ((1 : Int), ([] : List (List UInt8))) = r := Option.some.inj h
                refine XS.wk (.row false 6 [] 9 .str) ?_
                exact XS.fin [1] ((True) ∧ ((True) ∧ (True))) (by kernel_rfl) ⟨trivial, ⟨trivial, trivial⟩⟩
              · refine TS.cond (decide ((fates.getD x.toNat (0 : Int)) > (5 : Int))) ?_ (fun hcz => by rw [c14] at hcz; cases hcz) (fun hcz => ?_)
                · kernel_rfl
                refine TS.skip ?_
                refine XS.blockEnd ?_
                refine XS.then ?_
                have hq : (True) ∧ ((True) ∧ (True)) := ⟨trivial, ⟨trivial, trivial⟩⟩
                refine TS.reg [] ?_ ?_
                · apply prop_of ?_ hq
                  kernel_rfl
                refine XS.reAny [0] (mkMask 45 [8, 31, 32, 33]) (IntKind.wrap .i64 (x + (1 : Int))) h ?_
                kernel_rfl
          · refine TS.cond (decide (x < ((fates.length : Nat) : Int))) ?_ (fun hcz => by rw [c9] at hcz; cases hcz) (fun hcz => ?_)
            · kernel_rfl
            refine TS.exit ?_
            refine XS.passE ?_
            refine XS.passE ?_
            refine XS.out ?_
            refine XS.then ?_
            refine TS.seq ?_
            have hq : (True) ∧ ((True) ∧ ((True) ∧ (True))) := ⟨trivial, ⟨trivial, ⟨trivial, trivial⟩⟩⟩
            refine TS.reg [] ?_ ?_
            · apply prop_of ?_ hq
              kernel_rfl
            refine XS.then ?_
            refine TS.ret ?_
            obtain rfl : ((0 : Int), y_3.2) = r := Option.some.inj h
            exact XS.fin [0] ((True) ∧ ((True) ∧ (True))) (by kernel_rfl) ⟨trivial, ⟨trivial, trivial⟩⟩

/-! slices.Clone[[]string,string] -/
def F148 (n : Nat) (s : List (List UInt8)) : Option (List (List UInt8)) := (bif (decide (([] : List (List UInt8)).length + s.length ≤ 17179869184)) then (some (([] : List (List UInt8)) ++ s)) else none)
theorem F148_ok (n : Nat) (s : List (List UInt8)) (r : List (List UInt8)) (h : F148 n s = some r) : PureC Try.prog 148 [(.sl .str s)] (.row 0) [(.row 9 .str r)] := by
  refine PureC.mkS Try.func148 rfl rfl ?_
  intro w0 fz0 hfz
  replace h : (bif (decide (([] : List (List UInt8)).length + s.length ≤ 17179869184)) then (some (([] : List (List UInt8)) ++ s)) else none) = some r := h
  refine TS.seq ?_
  have hq : (True) ∧ (True) := ⟨trivial, trivial⟩
  refine TS.reg [] ?_ ?_
  · apply prop_of ?_ hq
    kernel_rfl
  refine XS.then ?_
  refine TS.seq ?_
  refine TS.seq ?_
  have hq : (True) ∧ (True) := ⟨trivial, trivial⟩
  refine TS.nilReg 1 [] .str s ?_ (by kernel_rfl) ?_
  · apply prop_of ?_ hq
    kernel_rfl
  · intro b2 hb4
    cases b2
    · clear hb4
      refine XS.then ?_
      refine TS.no ?_ ?_
      · kernel_rfl
      refine TS.skip ?_
      refine XS.then ?_
      refine TS.seq ?_
      obtain ⟨t1, h⟩ := test_some h
      have hq : (True) ∧ ((True) ∧ ((([] : List (List UInt8)).length + s.length ≤ 17179869184) ∧ ((True) ∧ (True)))) := ⟨trivial, ⟨trivial, ⟨of_decide_eq_true t1, ⟨trivial, trivial⟩⟩⟩⟩
      refine TS.reg [] ?_ ?_
      · apply prop_of ?_ hq
        kernel_rfl
      refine XS.then ?_
      refine TS.ret ?_
      obtain rfl : (([] : List (List UInt8)) ++ s) = r := Option.some.inj h
      exact XS.fin [1] ((True) ∧ (True)) (by kernel_rfl) ⟨trivial, trivial⟩
    · have e3 := hb4 rfl
      replace h : (some ([] : List (List UInt8))) = some r := by first | exact h | (rw [e3] at h ⊢; exact h) | simpa [e3] using h
      refine XS.then ?_
      refine TS.yes ?_ ?_
      · kernel_rfl
      refine TS.seq ?_
      have hq : (True) ∧ (True) := ⟨trivial, trivial⟩
      refine TS.reg [] ?_ ?_
      · apply prop_of ?_ hq
        kernel_rfl
      refine XS.then ?_
      refine TS.ret ?_
      refine XS.passR ?_
      obtain rfl : ([] : List (List UInt8)) = r := Option.some.inj h
      refine XS.wk (.row false 2 [] 9 .str) ?_
      exact XS.fin [0] ((True) ∧ (True)) (by kernel_rfl) ⟨trivial, trivial⟩

/-! plugtree/pipe.New -/
def F84 (n : Nat) (texts : List (List UInt8)) : Option (Int × Int × Int × (List (List UInt8))) := (bif (decide (((texts.length : Nat) : Int) > (200 : Int))) then (some ((0 : Int), (0 : Int), (2 : Int), ([] : List (List UInt8)))) else ((F148 n texts).bind fun y_5 => (some ((0 : Int), (0 : Int), (0 : Int), y_5))))
theorem F84_ok (n : Nat) (texts : List (List UInt8)) (r : Int × Int × Int × (List (List UInt8))) (h : F84 n texts = some r) : PureC Try.prog 84 [(.sl .str texts)] (.tup (.cons (.st (.cons (.int .i64 r.1) (.cons (.int .i64 r.2.1) (.cons (.row 0) .nilS)))) (.cons (.int .i64 r.2.2.1) .nil))) [(.row 9 .str r.2.2.2)] := by
  refine PureC.mkS Try.func84 rfl rfl ?_
  intro w0 fz0 hfz
  replace h : (bif (decide (((texts.length : Nat) : Int) > (200 : Int))) then (some ((0 : Int), (0 : Int), (2 : Int), ([] : List (List UInt8)))) else ((F148 n texts).bind fun y_5 => (some ((0 : Int), (0 : Int), (0 : Int), y_5)))) = some r := h
  refine TS.seq ?_
  have hq : (True) ∧ ((True) ∧ (True)) := ⟨trivial, ⟨trivial, trivial⟩⟩
  refine TS.reg [] ?_ ?_
  · apply prop_of ?_ hq
    kernel_rfl
  refine XS.then ?_
  refine TS.seq ?_
  refine TS.seq ?_
  have hq : (True) ∧ ((True) ∧ ((True) ∧ (True))) := ⟨trivial, ⟨trivial, ⟨trivial, trivial⟩⟩⟩
  refine TS.reg [] ?_ ?_
  · apply prop_of ?_ hq
    kernel_rfl
  refine XS.then ?_
  rcases bif_some h with ⟨c1, h⟩ | ⟨c2, h⟩
  · refine TS.cond (decide (((texts.length : Nat) : Int) > (200 : Int))) ?_ (fun hcz => ?_) (fun hcz => by rw [c1] at hcz; cases hcz)
    · kernel_rfl
    refine TS.seq ?_
    have hq : (True) ∧ ((True) ∧ ((True) ∧ (True))) := ⟨trivial, ⟨trivial, ⟨trivial, trivial⟩⟩⟩
    refine TS.reg [] ?_ ?_
    · apply prop_of ?_ hq
      kernel_rfl
    refine XS.then ?_
    refine TS.ret ?_
    refine XS.passR ?_
    obtain rfl : ((0 : Int), (0 : Int), (2 : Int), ([] : List (List UInt8))) = r := Option.some.inj h
    refine XS.wk (.row true 0 [true, true, false] 9 .str) ?_
    exact XS.fin [1] ((True) ∧ ((True) ∧ (True))) (by kernel_rfl) ⟨trivial, ⟨trivial, trivial⟩⟩
  · refine TS.cond (decide (((texts.length : Nat) : Int) > (200 : Int))) ?_ (fun hcz => by rw [c2] at hcz; cases hcz) (fun hcz => ?_)
    · kernel_rfl
    refine TS.skip ?_
    refine XS.then ?_
    refine TS.seq ?_
    obtain ⟨y_5, hx3, h⟩ := bind_some' h
    have hq : (True) ∧ ((PureC Try.prog 148 [(.sl .str texts)] (.row 0) [(.row 9 .str y_5)]) ∧ (((True) ∧ (True)) ∧ ((True) ∧ ((True) ∧ (True))))) := ⟨trivial, ⟨F148_ok n texts y_5 hx3, ⟨⟨trivial, trivial⟩, ⟨trivial, ⟨trivial, trivial⟩⟩⟩⟩⟩
    refine TS.reg [.none, (.call (.row 0) [(.row 9 .str y_5)])] ?_ ?_
    · apply prop_of ?_ hq
      kernel_rfl
    refine XS.then ?_
    refine TS.ret ?_
    obtain rfl : ((0 : Int), (0 : Int), (0 : Int), y_5) = r := Option.some.inj h
    exact XS.fin [1] ((True) ∧ ((True) ∧ (True))) (by kernel_rfl) ⟨trivial, ⟨trivial, trivial⟩⟩

/-! plugtree/pipe.Step$1 -/
def F149 (n : Nat) (vn : Int) : Option Bool := (bif (vn == (0 : Int)) then (some true) else (some (vn == (1 : Int))))
theorem F149_ok (n : Nat) (vn : Int) (r : Bool) (h : F149 n vn = some r) : PureC Try.prog 149 [(.int .i64 vn)] (.bool r) [] := by
  refine PureC.mkS Try.func149 rfl rfl ?_
  intro w0 fz0 hfz
  replace h : (bif (vn == (0 : Int)) then (some true) else (some (vn == (1 : Int)))) = some r := h
  refine TS.seq ?_
  have hq : (True) ∧ (True) := ⟨trivial, trivial⟩
  refine TS.reg [] ?_ ?_
  · apply prop_of ?_ hq
    kernel_rfl
  refine XS.then ?_
  refine TS.seq ?_
  rcases bif_some h with ⟨c1, h⟩ | ⟨c2, h⟩
  · have hq : (True) ∧ ((True) ∧ (((True) ∧ (vn == (0 : Int)) = true) ∧ ((True) ∧ ((True) ∧ (True))))) := ⟨trivial, ⟨trivial, ⟨⟨trivial, c1⟩, ⟨trivial, ⟨trivial, trivial⟩⟩⟩⟩⟩
    refine TS.reg [.none, .none, .dec true] ?_ ?_
    · apply prop_of ?_ hq
      kernel_rfl
    refine XS.then ?_
    refine TS.ret ?_
    obtain rfl : true = r := Option.some.inj h
    exact XS.fin [] ((True) ∧ (True)) (by kernel_rfl) ⟨trivial, trivial⟩
  · have hq : (True) ∧ ((True) ∧ (((True) ∧ (vn == (0 : Int)) = false) ∧ ((True) ∧ ((True) ∧ ((True) ∧ ((True) ∧ (True))))))) := ⟨trivial, ⟨trivial, ⟨⟨trivial, c2⟩, ⟨trivial, ⟨trivial, ⟨trivial, ⟨trivial, trivial⟩⟩⟩⟩⟩⟩⟩
    refine TS.reg [.none, .none, .dec false] ?_ ?_
    · apply prop_of ?_ hq
      kernel_rfl
    refine XS.then ?_
    refine TS.ret ?_
    obtain rfl : (vn == (1 : Int)) = r := Option.some.inj h
    exact XS.fin [] ((True) ∧ (True)) (by kernel_rfl) ⟨trivial, trivial⟩

/-! plugtree/pipe.known -/
def F150 (n : Nat) (fate : Int) : Option Bool := (bif (decide (fate ≥ (1 : Int))) then (some (decide (fate ≤ (5 : Int)))) else (some false))
theorem F150_ok (n : Nat) (fate : Int) (r : Bool) (h : F150 n fate = some r) : PureC Try.prog 150 [(.int .i64 fate)] (.bool r) [] := by
  refine PureC.mkS Try.func150 rfl rfl ?_
  intro w0 fz0 hfz
  replace h : (bif (decide (fate ≥ (1 : Int))) then (some (decide (fate ≤ (5 : Int)))) else (some false)) = some r := h
  refine TS.seq ?_
  have hq : (True) ∧ (True) := ⟨trivial, trivial⟩
  refine TS.reg [] ?_ ?_
  · apply prop_of ?_ hq
    kernel_rfl
  refine XS.then ?_
  refine TS.seq ?_
  rcases bif_some h with ⟨c1, h⟩ | ⟨c2, h⟩
  · have hq : (True) ∧ ((True) ∧ (((True) ∧ (decide (fate ≥ (1 : Int))) = true) ∧ ((True) ∧ ((True) ∧ ((True) ∧ ((True) ∧ (True))))))) := ⟨trivial, ⟨trivial, ⟨⟨trivial, c1⟩, ⟨trivial, ⟨trivial, ⟨trivial, ⟨trivial, trivial⟩⟩⟩⟩⟩⟩⟩
    refine TS.reg [.none, .none, .dec true] ?_ ?_
    · apply prop_of ?_ hq
      kernel_rfl
    refine XS.then ?_
    refine TS.ret ?_
    obtain rfl : (decide (fate ≤ (5 : Int))) = r := Option.some.inj h
    exact XS.fin [] ((True) ∧ (True)) (by kernel_rfl) ⟨trivial, trivial⟩
  · have hq : (True) ∧ ((True) ∧ (((True) ∧ (decide (fate ≥ (1 : Int))) = false) ∧ ((True) ∧ ((True) ∧ (True))))) := ⟨trivial, ⟨trivial, ⟨⟨trivial, c2⟩, ⟨trivial, ⟨trivial, trivial⟩⟩⟩⟩⟩
    refine TS.reg [.none, .none, .dec false] ?_ ?_
    · apply prop_of ?_ hq
      kernel_rfl
    refine XS.then ?_
    refine TS.ret ?_
    obtain rfl : false = r := Option.some.inj h
    exact XS.fin [] ((True) ∧ (True)) (by kernel_rfl) ⟨trivial, trivial⟩

/-! plugtree/pipe.Step -/
def F85_j6 (n : Nat) (p_Send : Int) (fate : Int) (y_6 : List (List UInt8)) : (Int × (List (List UInt8))) → Option (Int × Int × Int × (List (List UInt8)) × (List (List UInt8)))
  | (m0, m2) => (bif (fate == (1 : Int)) then (bif subB y_6.length (some (1 : Int)) none then ((F148 n (y_6.drop 1)).bind fun y_8 => (some ((IntKind.wrap .i64 ((1 : Int) - p_Send)), m0, (0 : Int), y_8, m2))) else none) else (some (p_Send, m0, (0 : Int), y_6, m2)))
def F85_j5 (n : Nat) (p_Send : Int) (p_Want : Int) (fate : Int) (y_6 : List (List UInt8)) (y_7 : List (List UInt8)) : Bool → Option (Int × Int × Int × (List (List UInt8)) × (List (List UInt8)))
  | x_2 => (bif x_2 then (some (p_Send, p_Want, (0 : Int), y_6, y_7)) else (bif (p_Send == p_Want) then (bif inb (0 : Int) y_6.length then (bif (decide (y_7.length + ([(y_6.getD 0 ([] : List UInt8))]).length ≤ 17179869184)) then (F85_j6 n p_Send fate y_6 ((IntKind.wrap .i64 ((1 : Int) - p_Want)), (y_7 ++ [(y_6.getD 0 ([] : List UInt8))]))) else none) else none) else (F85_j6 n p_Send fate y_6 (p_Want, y_7))))
def F85_j4 (n : Nat) (p_Send : Int) (p_Want : Int) (p_Left : List (List UInt8)) (p_Got : List (List UInt8)) (fate : Int) : Bool → Option (Int × Int × Int × (List (List UInt8)) × (List (List UInt8)))
  | x => (bif x then (some ((0 : Int), (0 : Int), (1 : Int), ([] : List (List UInt8)), ([] : List (List UInt8)))) else (bif (decide (((p_Left.length : Nat) : Int) > (200 : Int))) then (some ((0 : Int), (0 : Int), (2 : Int), ([] : List (List UInt8)), ([] : List (List UInt8)))) else (bif (decide (((p_Got.length : Nat) : Int) > (200 : Int))) then (some ((0 : Int), (0 : Int), (2 : Int), ([] : List (List UInt8)), ([] : List (List UInt8)))) else ((F148 n p_Left).bind fun y_6 => ((F148 n p_Got).bind fun y_7 => (bif (((y_6.length : Nat) : Int) == (0 : Int)) then (F85_j5 n p_Send p_Want fate y_6 y_7 true) else (bif (fate != (1 : Int)) then (F85_j5 n p_Send p_Want fate y_6 y_7 (fate != (3 : Int))) else (F85_j5 n p_Send p_Want fate y_6 y_7 false))))))))
def F85 (n : Nat) (p_Send : Int) (p_Want : Int) (p_Left : List (List UInt8)) (p_Got : List (List UInt8)) (fate : Int) : Option (Int × Int × Int × (List (List UInt8)) × (List (List UInt8))) := ((F149 n p_Send).bind fun y_9 => (bif (!y_9) then (F85_j4 n p_Send p_Want p_Left p_Got fate true) else ((F149 n p_Want).bind fun y_10 => (bif (!y_10) then (F85_j4 n p_Send p_Want p_Left p_Got fate true) else ((F150 n fate).bind fun y_11 => (F85_j4 n p_Send p_Want p_Left p_Got fate (!y_11)))))))
theorem F85_ok (n : Nat) (p_Send : Int) (p_Want : Int) (p_Left : List (List UInt8)) (p_Got : List (List UInt8)) (fate : Int) (r : Int × Int × Int × (List (List UInt8)) × (List (List UInt8))) (h : F85 n p_Send p_Want p_Left p_Got fate = some r) : PureC Try.prog 85 [(.st (.cons (.int .i64 p_Send) (.cons (.int .i64 p_Want) (.cons (.sl .str p_Left) (.sl .str p_Got))))), (.int .i64 fate)] (.tup (.cons (.st (.cons (.int .i64 r.1) (.cons (.int .i64 r.2.1) (.cons (.row 0) (.row 1))))) (.cons (.int .i64 r.2.2.1) .nil))) [(.row 9 .str r.2.2.2.1), (.row 9 .str r.2.2.2.2)] := by
  refine PureC.mkS Try.func85 rfl rfl ?_
  intro w0 fz0 hfz
  replace h : ((F149 n p_Send).bind fun y_9 => (bif (!y_9) then (F85_j4 n p_Send p_Want p_Left p_Got fate true) else ((F149 n p_Want).bind fun y_10 => (bif (!y_10) then (F85_j4 n p_Send p_Want p_Left p_Got fate true) else ((F150 n fate).bind fun y_11 => (F85_j4 n p_Send p_Want p_Left p_Got fate (!y_11))))))) = some r := h
  refine TS.seq ?_
  have hq : (True) ∧ ((True) ∧ ((True) ∧ (True))) := ⟨trivial, ⟨trivial, ⟨trivial, trivial⟩⟩⟩
  refine TS.reg [] ?_ ?_
  · apply prop_of ?_ hq
    kernel_rfl
  refine XS.then ?_
  refine TS.seq ?_
  have hq : (True) ∧ (True) := ⟨trivial, trivial⟩
  refine TS.reg [] ?_ ?_
  · apply prop_of ?_ hq
    kernel_rfl
  refine XS.then ?_
  refine TS.seq ?_
  refine TS.block ?_
  refine TS.seq ?_
  refine TS.cut (D := Bool) (fun d => match d with | x => (mkTs 89 [(1, (.int .i64 fate)), (2, (.ptr 0 [])), (4, (.ptr 1 [])), (7, (.bool x))], [(.box 131 (.st (.cons (.int .i64 p_Send) (.cons (.int .i64 p_Want) (.cons (.sl .str p_Left) (.sl .str p_Got)))))), (.box 131 (.st (.cons (.int .i64 (0 : Int)) (.cons (.int .i64 (0 : Int)) (.cons .nilS .nilS)))))])) (fun d => F85_j4 n p_Send p_Want p_Left p_Got fate d = some r) ?_ ?_
  · rintro x h
    replace h : (bif x then (some ((0 : Int), (0 : Int), (1 : Int), ([] : List (List UInt8)), ([] : List (List UInt8)))) else (bif (decide (((p_Left.length : Nat) : Int) > (200 : Int))) then (some ((0 : Int), (0 : Int), (2 : Int), ([] : List (List UInt8)), ([] : List (List UInt8)))) else (bif (decide (((p_Got.length : Nat) : Int) > (200 : Int))) then (some ((0 : Int), (0 : Int), (2 : Int), ([] : List (List UInt8)), ([] : List (List UInt8)))) else ((F148 n p_Left).bind fun y_6 => ((F148 n p_Got).bind fun y_7 => (bif (((y_6.length : Nat) : Int) == (0 : Int)) then (F85_j5 n p_Send p_Want fate y_6 y_7 true) else (bif (fate != (1 : Int)) then (F85_j5 n p_Send p_Want fate y_6 y_7 (fate != (3 : Int))) else (F85_j5 n p_Send p_Want fate y_6 y_7 false)))))))) = some r := h
    refine XS.then ?_
    rcases bif_some h with ⟨c1, h⟩ | ⟨c2, h⟩
    · refine TS.cond x ?_ (fun hcz => ?_) (fun hcz => by rw [c1] at hcz; cases hcz)
      · kernel_rfl
      refine TS.seq ?_
      have hq : (True) ∧ ((True) ∧ ((True) ∧ (True))) := ⟨trivial, ⟨trivial, ⟨trivial, trivial⟩⟩⟩
      refine TS.reg [] ?_ ?_
      · apply prop_of ?_ hq
        kernel_rfl
      refine XS.then ?_
      refine TS.ret ?_
      refine XS.blockRet ?_
      refine XS.passR ?_
      obtain rfl : ((0 : Int), (0 : Int), (1 : Int), ([] : List (List UInt8)), ([] : List (List UInt8))) = r := Option.some.inj h
      refine XS.wk (.row true 1 [true, true, false] 9 .str) ?_
      refine XS.wk (.row true 1 [true, true, true] 9 .str) ?_
      exact XS.fin [2, 3] ((True) ∧ ((True) ∧ (True))) (by kernel_rfl) ⟨trivial, ⟨trivial, trivial⟩⟩
    · refine TS.cond x ?_ (fun hcz => by rw [c2] at hcz; cases hcz) (fun hcz => ?_)
      · kernel_rfl
      refine TS.seq ?_
      rcases bif_some h with ⟨c3, h⟩ | ⟨c4, h⟩
      · have hq : (True) ∧ ((True) ∧ ((True) ∧ ((True) ∧ (((True) ∧ (decide (((p_Left.length : Nat) : Int) > (200 : Int))) = true) ∧ ((True) ∧ ((True) ∧ (True))))))) := ⟨trivial, ⟨trivial, ⟨trivial, ⟨trivial, ⟨⟨trivial, c3⟩, ⟨trivial, ⟨trivial, trivial⟩⟩⟩⟩⟩⟩⟩
        refine TS.reg [.none, .none, .none, .none, .dec true] ?_ ?_
        · apply prop_of ?_ hq
          kernel_rfl
        refine XS.then ?_
        refine TS.yes ?_ ?_
        · kernel_rfl
        refine TS.seq ?_
        have hq : (True) ∧ ((True) ∧ ((True) ∧ (True))) := ⟨trivial, ⟨trivial, ⟨trivial, trivial⟩⟩⟩
        refine TS.reg [] ?_ ?_
        · apply prop_of ?_ hq
          kernel_rfl
        refine XS.then ?_
        refine TS.ret ?_
        refine XS.blockRet ?_
        refine XS.passR ?_
        obtain rfl : ((0 : Int), (0 : Int), (2 : Int), ([] : List (List UInt8)), ([] : List (List UInt8))) = r := Option.some.inj h
        refine XS.wk (.row true 1 [true, true, false] 9 .str) ?_
        refine XS.wk (.row true 1 [true, true, true] 9 .str) ?_
        exact XS.fin [2, 3] ((True) ∧ ((True) ∧ (True))) (by kernel_rfl) ⟨trivial, ⟨trivial, trivial⟩⟩
      · have hq : (True) ∧ ((True) ∧ ((True) ∧ ((True) ∧ (((True) ∧ (decide (((p_Left.length : Nat) : Int) > (200 : Int))) = false) ∧ ((True) ∧ ((True) ∧ ((True) ∧ ((True) ∧ ((True) ∧ ((True) ∧ (True))))))))))) := ⟨trivial, ⟨trivial, ⟨trivial, ⟨trivial, ⟨⟨trivial, c4⟩, ⟨trivial, ⟨trivial, ⟨trivial, ⟨trivial, ⟨trivial, ⟨trivial, trivial⟩⟩⟩⟩⟩⟩⟩⟩⟩⟩⟩
        refine TS.reg [.none, .none, .none, .none, .dec false] ?_ ?_
        · apply prop_of ?_ hq
          kernel_rfl
        refine XS.then ?_
        rcases bif_some h with ⟨c5, h⟩ | ⟨c6, h⟩
        · refine TS.cond (decide (((p_Got.length : Nat) : Int) > (200 : Int))) ?_ (fun hcz => ?_) (fun hcz => by rw [c5] at hcz; cases hcz)
          · kernel_rfl
          refine TS.seq ?_
          have hq : (True) ∧ ((True) ∧ ((True) ∧ (True))) := ⟨trivial, ⟨trivial, ⟨trivial, trivial⟩⟩⟩
          refine TS.reg [] ?_ ?_
          · apply prop_of ?_ hq
            kernel_rfl
          refine XS.then ?_
          refine TS.ret ?_
          refine XS.blockRet ?_
          refine XS.passR ?_
          obtain rfl : ((0 : Int), (0 : Int), (2 : Int), ([] : List (List UInt8)), ([] : List (List UInt8))) = r := Option.some.inj h
          refine XS.wk (.row true 1 [true, true, false] 9 .str) ?_
          refine XS.wk (.row true 1 [true, true, true] 9 .str) ?_
          exact XS.fin [2, 3] ((True) ∧ ((True) ∧ (True))) (by kernel_rfl) ⟨trivial, ⟨trivial, trivial⟩⟩
        · refine TS.cond (decide (((p_Got.length : Nat) : Int) > (200 : Int))) ?_ (fun hcz => by rw [c6] at hcz; cases hcz) (fun hcz => ?_)
          · kernel_rfl
          refine TS.skip ?_
          refine XS.blockEnd ?_
          refine XS.then ?_
          refine TS.seq ?_
          obtain ⟨y_6, hx7, h⟩ := bind_some' h
          obtain ⟨y_7, hx8, h⟩ := bind_some' h
          have hq : ((True) ∧ ((True) ∧ ((PureC Try.prog 148 [(.sl .str p_Left)] (.row 0) [(.row 9 .str y_6)]) ∧ ((True) ∧ ((True) ∧ ((PureC Try.prog 148 [(.sl .str p_Got)] (.row 0) [(.row 9 .str y_7)]) ∧ ((True) ∧ (True)))))))) ∧ ((True) ∧ ((True) ∧ ((True) ∧ (True)))) := ⟨⟨trivial, ⟨trivial, ⟨F148_ok n p_Left y_6 hx7, ⟨trivial, ⟨trivial, ⟨F148_ok n p_Got y_7 hx8, ⟨trivial, trivial⟩⟩⟩⟩⟩⟩⟩, ⟨trivial, ⟨trivial, ⟨trivial, trivial⟩⟩⟩⟩
          refine TS.draw 7 [] [.none, .none, (.call (.row 0) [(.row 9 .str y_6)]), .none, .none, (.call (.row 0) [(.row 9 .str y_7)])] (by kernel_rfl) ?_ ?_
          · apply prop_of ?_ hq
            kernel_rfl
          refine XS.then ?_
          refine TS.seq ?_
          refine TS.seq ?_
          refine TS.cut (D := Bool) (fun d => match d with | x_2 => (mkTs 89 [(1, (.int .i64 fate)), (2, (.ptr 0 [])), (4, (.ptr 3 [])), (57, (.bool x_2))], [(.box 131 (.st (.cons (.int .i64 p_Send) (.cons (.int .i64 p_Want) (.cons (.row 1) (.row 2)))))), (.row 9 .str y_6), (.row 9 .str y_7), (.box 131 (.st (.cons (.int .i64 (0 : Int)) (.cons (.int .i64 (0 : Int)) (.cons .nilS .nilS)))))])) (fun d => F85_j5 n p_Send p_Want fate y_6 y_7 d = some r) ?_ ?_
          · rintro x_2 h
            replace h : (bif x_2 then (some (p_Send, p_Want, (0 : Int), y_6, y_7)) else (bif (p_Send == p_Want) then (bif inb (0 : Int) y_6.length then (bif (decide (y_7.length + ([(y_6.getD 0 ([] : List UInt8))]).length ≤ 17179869184)) then (F85_j6 n p_Send fate y_6 ((IntKind.wrap .i64 ((1 : Int) - p_Want)), (y_7 ++ [(y_6.getD 0 ([] : List UInt8))]))) else none) else none) else (F85_j6 n p_Send fate y_6 (p_Want, y_7)))) = some r := h
            refine XS.then ?_
            rcases bif_some h with ⟨c9, h⟩ | ⟨c10, h⟩
            · refine TS.cond x_2 ?_ (fun hcz => ?_) (fun hcz => by rw [c9] at hcz; cases hcz)
              · kernel_rfl
              refine TS.seq ?_
              have hq : (True) ∧ ((True) ∧ ((True) ∧ (True))) := ⟨trivial, ⟨trivial, ⟨trivial, trivial⟩⟩⟩
              refine TS.reg [] ?_ ?_
              · apply prop_of ?_ hq
                kernel_rfl
              refine XS.then ?_
              refine TS.ret ?_
              refine XS.passR ?_
              obtain rfl : (p_Send, p_Want, (0 : Int), y_6, y_7) = r := Option.some.inj h
              exact XS.fin [1, 2] ((True) ∧ ((True) ∧ (True))) (by kernel_rfl) ⟨trivial, ⟨trivial, trivial⟩⟩
            · refine TS.cond x_2 ?_ (fun hcz => by rw [c10] at hcz; cases hcz) (fun hcz => ?_)
              · kernel_rfl
              refine TS.skip ?_
              refine XS.then ?_
              refine TS.seq ?_
              refine TS.seq ?_
              have hq : (True) ∧ ((True) ∧ ((True) ∧ ((True) ∧ ((True) ∧ (True))))) := ⟨trivial, ⟨trivial, ⟨trivial, ⟨trivial, ⟨trivial, trivial⟩⟩⟩⟩⟩
              refine TS.reg [] ?_ ?_
              · apply prop_of ?_ hq
                kernel_rfl
              refine XS.then ?_
              refine TS.cut (D := Int × (List (List UInt8))) (fun d => match d with | (m0, m2) => (mkTs 89 [(1, (.int .i64 fate)), (2, (.ptr 0 [])), (4, (.ptr 3 []))], [(.box 131 (.st (.cons (.int .i64 p_Send) (.cons (.int .i64 m0) (.cons (.row 1) (.row 2)))))), (.row 9 .str y_6), (.row 9 .str m2), (.box 131 (.st (.cons (.int .i64 (0 : Int)) (.cons (.int .i64 (0 : Int)) (.cons .nilS .nilS)))))])) (fun d => F85_j6 n p_Send fate y_6 d = some r) ?_ ?_
              · rintro ⟨m0, m2⟩ h
                replace h : (bif (fate == (1 : Int)) then (bif subB y_6.length (some (1 : Int)) none then ((F148 n (y_6.drop 1)).bind fun y_8 => (some ((IntKind.wrap .i64 ((1 : Int) - p_Send)), m0, (0 : Int), y_8, m2))) else none) else (some (p_Send, m0, (0 : Int), y_6, m2))) = some r := h
                refine XS.then ?_
                refine TS.seq ?_
                refine TS.seq ?_
                have hq : (True) ∧ ((True) ∧ (True)) := ⟨trivial, ⟨trivial, trivial⟩⟩
                refine TS.reg [] ?_ ?_
                · apply prop_of ?_ hq
                  kernel_rfl
                refine XS.then ?_
                rcases bif_some h with ⟨c11, h⟩ | ⟨c12, h⟩
                · refine TS.cond (fate == (1 : Int)) ?_ (fun hcz => ?_) (fun hcz => by rw [c11] at hcz; cases hcz)
                  · kernel_rfl
                  refine TS.seq ?_
                  refine TS.wk (.frz 1) ?_
                  obtain ⟨t13, h⟩ := test_some h
                  obtain ⟨y_8, hx14, h⟩ := bind_some' h
                  have hq : (True) ∧ ((True) ∧ ((subC y_6.length (some (1 : Int)) none) ∧ ((PureC Try.prog 148 [(.sl .str (y_6.drop 1))] (.row 0) [(.row 9 .str y_8)]) ∧ ((True) ∧ ((True) ∧ (True)))))) := ⟨trivial, ⟨trivial, ⟨subB_ok t13, ⟨F148_ok n (y_6.drop 1) y_8 hx14, ⟨trivial, ⟨trivial, trivial⟩⟩⟩⟩⟩⟩
                  refine TS.reg [.none, .none, .none, (.call (.row 0) [(.row 9 .str y_8)])] ?_ ?_
                  · apply prop_of ?_ hq
                    kernel_rfl
                  refine XS.then ?_
                  have hq : (True) ∧ ((True) ∧ ((True) ∧ ((True) ∧ ((True) ∧ (True))))) := ⟨trivial, ⟨trivial, ⟨trivial, ⟨trivial, ⟨trivial, trivial⟩⟩⟩⟩⟩
                  refine TS.reg [] ?_ ?_
                  · apply prop_of ?_ hq
                    kernel_rfl
                  refine XS.then ?_
                  refine TS.seq ?_
                  have hq : (True) ∧ ((True) ∧ ((True) ∧ (True))) := ⟨trivial, ⟨trivial, ⟨trivial, trivial⟩⟩⟩
                  refine TS.reg [] ?_ ?_
                  · apply prop_of ?_ hq
                    kernel_rfl
                  refine XS.then ?_
                  refine TS.ret ?_
                  obtain rfl : ((IntKind.wrap .i64 ((1 : Int) - p_Send)), m0, (0 : Int), y_8, m2) = r := Option.some.inj h
                  exact XS.fin [4, 2] ((True) ∧ ((True) ∧ (True))) (by kernel_rfl) ⟨trivial, ⟨trivial, trivial⟩⟩
                · refine TS.cond (fate == (1 : Int)) ?_ (fun hcz => by rw [c12] at hcz; cases hcz) (fun hcz => ?_)
                  · kernel_rfl
                  refine TS.skip ?_
                  refine XS.then ?_
                  refine TS.seq ?_
                  have hq : (True) ∧ ((True) ∧ ((True) ∧ (True))) := ⟨trivial, ⟨trivial, ⟨trivial, trivial⟩⟩⟩
                  refine TS.reg [] ?_ ?_
                  · apply prop_of ?_ hq
                    kernel_rfl
                  refine XS.then ?_
                  refine TS.ret ?_
                  obtain rfl : (p_Send, m0, (0 : Int), y_6, m2) = r := Option.some.inj h
                  exact XS.fin [1, 2] ((True) ∧ ((True) ∧ (True))) (by kernel_rfl) ⟨trivial, ⟨trivial, trivial⟩⟩
              · rcases bif_some h with ⟨c15, h⟩ | ⟨c16, h⟩
                · refine TS.cond (p_Send == p_Want) ?_ (fun hcz => ?_) (fun hcz => by rw [c15] at hcz; cases hcz)
                  · kernel_rfl
                  refine TS.seq ?_
                  obtain ⟨t17, h⟩ := test_some h
                  obtain ⟨t18, h⟩ := test_some h
                  have hq : ((True) ∧ ((True) ∧ ((True) ∧ ((True) ∧ ((inR (0 : Int) y_6.length) ∧ ((0 < y_6.length ∧ (True)) ∧ (((0 < 1 ∧ True) ∧ (True)) ∧ (True)))))))) ∧ ((y_7.length + ([(y_6.getD 0 ([] : List UInt8))]).length ≤ 17179869184) ∧ ((True) ∧ ((True) ∧ (True)))) := ⟨⟨trivial, ⟨trivial, ⟨trivial, ⟨trivial, ⟨inb_ok t17, ⟨⟨inR_lt (inb_ok t17), trivial⟩, ⟨⟨⟨by decide, trivial⟩, trivial⟩, trivial⟩⟩⟩⟩⟩⟩⟩, ⟨of_decide_eq_true t18, ⟨trivial, ⟨trivial, trivial⟩⟩⟩⟩
                  refine TS.draw 7 [] [] (by kernel_rfl) ?_ ?_
                  · apply prop_of ?_ hq
                    kernel_rfl
                  refine XS.then ?_
                  have hq : (True) ∧ ((True) ∧ ((True) ∧ ((True) ∧ ((True) ∧ (True))))) := ⟨trivial, ⟨trivial, ⟨trivial, ⟨trivial, ⟨trivial, trivial⟩⟩⟩⟩⟩
                  refine TS.reg [] ?_ ?_
                  · apply prop_of ?_ hq
                    kernel_rfl
                  refine XS.reAny [0, 1, 5, 3] (mkMask 89 [1, 2, 4]) ((IntKind.wrap .i64 ((1 : Int) - p_Want)), (y_7 ++ [(y_6.getD 0 ([] : List UInt8))])) h ?_
                  kernel_rfl
                · refine TS.cond (p_Send == p_Want) ?_ (fun hcz => by rw [c16] at hcz; cases hcz) (fun hcz => ?_)
                  · kernel_rfl
                  refine TS.skip ?_
                  refine XS.reAny [0, 1, 2, 3] (mkMask 89 [1, 2, 4]) (p_Want, y_7) h ?_
                  kernel_rfl
          · rcases bif_some h with ⟨c19, h⟩ | ⟨c20, h⟩
            · have hq : (True) ∧ ((True) ∧ ((True) ∧ ((True) ∧ (((True) ∧ (((y_6.length : Nat) : Int) == (0 : Int)) = true) ∧ ((True) ∧ (True)))))) := ⟨trivial, ⟨trivial, ⟨trivial, ⟨trivial, ⟨⟨trivial, c19⟩, ⟨trivial, trivial⟩⟩⟩⟩⟩⟩
              refine TS.reg [.none, .none, .none, .none, .dec true] ?_ ?_
              · apply prop_of ?_ hq
                kernel_rfl
              refine XS.reAny [0, 2, 3, 1] (mkMask 89 [1, 2, 4, 57]) true h ?_
              kernel_rfl
            · rcases bif_some h with ⟨c21, h⟩ | ⟨c22, h⟩
              · have hq : (True) ∧ ((True) ∧ ((True) ∧ ((True) ∧ (((True) ∧ (((y_6.length : Nat) : Int) == (0 : Int)) = false) ∧ ((True) ∧ ((True) ∧ (((True) ∧ (fate != (1 : Int)) = true) ∧ ((True) ∧ ((True) ∧ ((True) ∧ ((True) ∧ (True)))))))))))) := ⟨trivial, ⟨trivial, ⟨trivial, ⟨trivial, ⟨⟨trivial, c20⟩, ⟨trivial, ⟨trivial, ⟨⟨trivial, c21⟩, ⟨trivial, ⟨trivial, ⟨trivial, ⟨trivial, trivial⟩⟩⟩⟩⟩⟩⟩⟩⟩⟩⟩⟩
                refine TS.reg [.none, .none, .none, .none, .dec false, .none, .none, .dec true] ?_ ?_
                · apply prop_of ?_ hq
                  kernel_rfl
                refine XS.reAny [0, 2, 3, 1] (mkMask 89 [1, 2, 4, 57]) (fate != (3 : Int)) h ?_
                kernel_rfl
              · have hq : (True) ∧ ((True) ∧ ((True) ∧ ((True) ∧ (((True) ∧ (((y_6.length : Nat) : Int) == (0 : Int)) = false) ∧ ((True) ∧ ((True) ∧ (((True) ∧ (fate != (1 : Int)) = false) ∧ ((True) ∧ ((True) ∧ (True)))))))))) := ⟨trivial, ⟨trivial, ⟨trivial, ⟨trivial, ⟨⟨trivial, c20⟩, ⟨trivial, ⟨trivial, ⟨⟨trivial, c22⟩, ⟨trivial, ⟨trivial, trivial⟩⟩⟩⟩⟩⟩⟩⟩⟩⟩
                refine TS.reg [.none, .none, .none, .none, .dec false, .none, .none, .dec false] ?_ ?_
                · apply prop_of ?_ hq
                  kernel_rfl
                refine XS.reAny [0, 2, 3, 1] (mkMask 89 [1, 2, 4, 57]) false h ?_
                kernel_rfl
  · obtain ⟨y_9, hx23, h⟩ := bind_some' h
    rcases bif_some h with ⟨c24, h⟩ | ⟨c25, h⟩
    · have hq : (True) ∧ ((True) ∧ ((True) ∧ ((PureC Try.prog 149 [(.int .i64 p_Send)] (.bool y_9) []) ∧ ((True) ∧ (((True) ∧ (!y_9) = true) ∧ ((True) ∧ ((True) ∧ ((True) ∧ ((True) ∧ (True)))))))))) := ⟨trivial, ⟨trivial, ⟨trivial, ⟨F149_ok n p_Send y_9 hx23, ⟨trivial, ⟨⟨trivial, c24⟩, ⟨trivial, ⟨trivial, ⟨trivial, ⟨trivial, trivial⟩⟩⟩⟩⟩⟩⟩⟩⟩⟩
      refine TS.reg [.none, .none, .none, (.call (.bool y_9) []), .none, .dec true] ?_ ?_
      · apply prop_of ?_ hq
        kernel_rfl
      refine XS.reAny [0, 1] (mkMask 89 [1, 2, 4, 7]) true h ?_
      kernel_rfl
    · obtain ⟨y_10, hx26, h⟩ := bind_some' h
      rcases bif_some h with ⟨c27, h⟩ | ⟨c28, h⟩
      · have hq : (True) ∧ ((True) ∧ ((True) ∧ ((PureC Try.prog 149 [(.int .i64 p_Send)] (.bool y_9) []) ∧ ((True) ∧ (((True) ∧ (!y_9) = false) ∧ ((True) ∧ ((True) ∧ ((True) ∧ ((PureC Try.prog 149 [(.int .i64 p_Want)] (.bool y_10) []) ∧ ((True) ∧ ((True) ∧ (((True) ∧ (!y_10) = true) ∧ ((True) ∧ ((True) ∧ (True))))))))))))))) := ⟨trivial, ⟨trivial, ⟨trivial, ⟨F149_ok n p_Send y_9 hx23, ⟨trivial, ⟨⟨trivial, c25⟩, ⟨trivial, ⟨trivial, ⟨trivial, ⟨F149_ok n p_Want y_10 hx26, ⟨trivial, ⟨trivial, ⟨⟨trivial, c27⟩, ⟨trivial, ⟨trivial, trivial⟩⟩⟩⟩⟩⟩⟩⟩⟩⟩⟩⟩⟩⟩⟩
        refine TS.reg [.none, .none, .none, (.call (.bool y_9) []), .none, .dec false, .none, .none, .none, (.call (.bool y_10) []), .none, .none, .dec true] ?_ ?_
        · apply prop_of ?_ hq
          kernel_rfl
        refine XS.reAny [0, 1] (mkMask 89 [1, 2, 4, 7]) true h ?_
        kernel_rfl
      · obtain ⟨y_11, hx29, h⟩ := bind_some' h
        have hq : (True) ∧ ((True) ∧ ((True) ∧ ((PureC Try.prog 149 [(.int .i64 p_Send)] (.bool y_9) []) ∧ ((True) ∧ (((True) ∧ (!y_9) = false) ∧ ((True) ∧ ((True) ∧ ((True) ∧ ((PureC Try.prog 149 [(.int .i64 p_Want)] (.bool y_10) []) ∧ ((True) ∧ ((True) ∧ (((True) ∧ (!y_10) = false) ∧ ((True) ∧ ((PureC Try.prog 150 [(.int .i64 fate)] (.bool y_11) []) ∧ ((True) ∧ ((True) ∧ ((True) ∧ (True)))))))))))))))))) := ⟨trivial, ⟨trivial, ⟨trivial, ⟨F149_ok n p_Send y_9 hx23, ⟨trivial, ⟨⟨trivial, c25⟩, ⟨trivial, ⟨trivial, ⟨trivial, ⟨F149_ok n p_Want y_10 hx26, ⟨trivial, ⟨trivial, ⟨⟨trivial, c28⟩, ⟨trivial, ⟨F150_ok n fate y_11 hx29, ⟨trivial, ⟨trivial, ⟨trivial, trivial⟩⟩⟩⟩⟩⟩⟩⟩⟩⟩⟩⟩⟩⟩⟩⟩⟩⟩
        refine TS.reg [.none, .none, .none, (.call (.bool y_9) []), .none, .dec false, .none, .none, .none, (.call (.bool y_10) []), .none, .none, .dec false, .none, (.call (.bool y_11) [])] ?_ ?_
        · apply prop_of ?_ hq
          kernel_rfl
        refine XS.reAny [0, 1] (mkMask 89 [1, 2, 4, 7]) (!y_11) h ?_
        kernel_rfl

/-! strings.Join -/
def F61 (n : Nat) (elems : List (List UInt8)) (sep : List UInt8) : Option (List UInt8) := bif decide ((Lib.join elems sep).length ≤ 140737488355328 ∧ elems.length ≤ 140737488355328) then some (Lib.join elems sep) else none
theorem F61_ok (n : Nat) (elems : List (List UInt8)) (sep : List UInt8) (r : List UInt8) (h : F61 n elems sep = some r) : PureC Try.prog 61 [(.sl .str elems), (.str sep)] (.str r) [] := by
  unfold F61 at h
  obtain ⟨c, h⟩ := test_some h
  obtain rfl := Option.some.inj h
  exact PureC.join elems sep (of_decide_eq_true c) Try.strings_Join_none Try.strings_Join

/-! plugtree/strike.Carry -/
def F31_l34 (n : Nat) (y_6 : Int × (List (List UInt8))) (m3 : List (List UInt8)) (m5 : Int) (m5_2 : Int) (y_8 : List UInt8) (k31_34 : (Int × Int) → Option (Int × (List UInt8) × Int × Int × Int)) : (Int × Int) → Option (Int × (List UInt8) × Int × Int × Int)
  | (x, m1) => (bif (decide (x < (((y_6.2.take (IntKind.wrap .i64 (((y_6.2.length : Nat) : Int) - ((m3.length : Nat) : Int))).toNat).length : Nat) : Int))) then (bif inb x ((y_6.2.take (IntKind.wrap .i64 (((y_6.2.length : Nat) : Int) - ((m3.length : Nat) : Int))).toNat).length) then (k31_34 ((IntKind.wrap .i64 (x + (1 : Int))), (IntKind.wrap .i64 (m1 + ((((y_6.2.take (IntKind.wrap .i64 (((y_6.2.length : Nat) : Int) - ((m3.length : Nat) : Int))).toNat).getD x.toNat ([] : List UInt8)).length : Nat) : Int))))) else none) else (some (m5, y_8, m1, m5_2, (0 : Int))))
def F31_j33 (n : Nat) (y_6 : Int × (List (List UInt8))) : (Int × Int × (List (List UInt8)) × (List (List UInt8)) × Int × Int) → Option (Int × (List UInt8) × Int × Int × Int)
  | (m2, m2_2, m3, m4, m5, m5_2) => ((F61 n m4 ([] : List UInt8)).bind fun y_8 => (bif subB y_6.2.length none (some (IntKind.wrap .i64 (((y_6.2.length : Nat) : Int) - ((m3.length : Nat) : Int)))) then (loopF (F31_l34 n y_6 m3 m5 m5_2 y_8) n ((0 : Int), (0 : Int))) else none))
def F31_j43 (n : Nat) (k31_41 : (Int × Int × Int × Int × (List (List UInt8)) × (List (List UInt8))) → Option (Int × (List UInt8) × Int × Int × Int)) (y_6 : Int × (List (List UInt8))) (x_2 : Int) (y_9 : Int × Int × Int × (List (List UInt8)) × (List (List UInt8))) : Int → Option (Int × (List UInt8) × Int × Int × Int)
  | errors_2 => (bif (((y_9.2.2.2.1.length : Nat) : Int) == (0 : Int)) then (F31_j33 n y_6 (y_9.1, y_9.2.1, y_9.2.2.2.1, y_9.2.2.2.2, (0 : Int), (IntKind.wrap .i64 (x_2 + (1 : Int))))) else (bif (errors_2 == (3 : Int)) then (F31_j33 n y_6 (y_9.1, y_9.2.1, y_9.2.2.2.1, y_9.2.2.2.2, (9 : Int), (IntKind.wrap .i64 (x_2 + (1 : Int))))) else (k31_41 (errors_2, (IntKind.wrap .i64 (x_2 + (1 : Int))), y_9.1, y_9.2.1, y_9.2.2.2.1, y_9.2.2.2.2))))
def F31_j44 (n : Nat) (k31_41 : (Int × Int × Int × Int × (List (List UInt8)) × (List (List UInt8))) → Option (Int × (List UInt8) × Int × Int × Int)) (fates : List Int) (y_6 : Int × (List (List UInt8))) (errors : Int) (x_2 : Int) (y_9 : Int × Int × Int × (List (List UInt8)) × (List (List UInt8))) : Bool → Option (Int × (List UInt8) × Int × Int × Int)
  | x_3 => (bif x_3 then (F31_j43 n k31_41 y_6 x_2 y_9 (IntKind.wrap .i64 (errors + (1 : Int)))) else (bif ((fates.getD x_2.toNat (0 : Int)) == (1 : Int)) then (F31_j43 n k31_41 y_6 x_2 y_9 (0 : Int)) else (F31_j43 n k31_41 y_6 x_2 y_9 errors)))
def F31_l41 (n : Nat) (fates : List Int) (y_6 : Int × (List (List UInt8))) (k31_41 : (Int × Int × Int × Int × (List (List UInt8)) × (List (List UInt8))) → Option (Int × (List UInt8) × Int × Int × Int)) : (Int × Int × Int × Int × (List (List UInt8)) × (List (List UInt8))) → Option (Int × (List UInt8) × Int × Int × Int)
  | (errors, x_2, m2_3, m2_4, m3_2, m4_2) => (bif (decide (x_2 < ((fates.length : Nat) : Int))) then (bif inb x_2 fates.length then (bif ((fates.getD x_2.toNat (0 : Int)) == (5 : Int)) then (F31_j33 n y_6 (m2_3, m2_4, m3_2, m4_2, (8 : Int), (IntKind.wrap .i64 (x_2 + (1 : Int))))) else ((F85 n m2_3 m2_4 m3_2 m4_2 (fates.getD x_2.toNat (0 : Int))).bind fun y_9 => (bif ((fates.getD x_2.toNat (0 : Int)) == (2 : Int)) then (F31_j44 n k31_41 fates y_6 errors x_2 y_9 ((fates.getD x_2.toNat (0 : Int)) == (2 : Int))) else (F31_j44 n k31_41 fates y_6 errors x_2 y_9 ((fates.getD x_2.toNat (0 : Int)) == (3 : Int)))))) else none) else (F31_j33 n y_6 (m2_3, m2_4, m3_2, m4_2, (10 : Int), x_2)))
def F31 (n : Nat) (text : List UInt8) (size : Int) (fates : List Int) : Option (Int × (List UInt8) × Int × Int × Int) := ((F83 n text size fates).bind fun y_6 => (bif (y_6.1 != (0 : Int)) then (some ((0 : Int), ([] : List UInt8), (0 : Int), (0 : Int), y_6.1)) else ((F84 n y_6.2).bind fun y_7 => (loopF (F31_l41 n fates y_6) n ((0 : Int), (0 : Int), y_7.1, y_7.2.1, y_7.2.2.2, ([] : List (List UInt8)))))))
theorem F31_ok (n : Nat) (text : List UInt8) (size : Int) (fates : List Int) (r : Int × (List UInt8) × Int × Int × Int) (h : F31 n text size fates = some r) : PureC Try.prog 31 [(.str text), (.int .i64 size), (.sl (.int .i64) fates)] (.tup (.cons (.st (.cons (.int .i64 r.1) (.cons (.str r.2.1) (.cons (.int .i64 r.2.2.1) (.int .i64 r.2.2.2.1))))) (.cons (.int .i64 r.2.2.2.2) .nil))) [] := by
  refine PureC.mkS Try.func31 rfl rfl ?_
  intro w0 fz0 hfz
  replace h : ((F83 n text size fates).bind fun y_6 => (bif (y_6.1 != (0 : Int)) then (some ((0 : Int), ([] : List UInt8), (0 : Int), (0 : Int), y_6.1)) else ((F84 n y_6.2).bind fun y_7 => (loopF (F31_l41 n fates y_6) n ((0 : Int), (0 : Int), y_7.1, y_7.2.1, y_7.2.2.2, ([] : List (List UInt8))))))) = some r := h
  refine TS.seq ?_
  have hq : (True) ∧ ((True) ∧ (True)) := ⟨trivial, ⟨trivial, trivial⟩⟩
  refine TS.reg [] ?_ ?_
  · apply prop_of ?_ hq
    kernel_rfl
  refine XS.then ?_
  refine TS.seq ?_
  obtain ⟨y_6, hx1, h⟩ := bind_some' h
  have hq : (True) ∧ ((True) ∧ ((True) ∧ ((PureC Try.prog 83 [(.str text), (.int .i64 size), (.sl (.int .i64) fates)] (.tup (.cons (.row 0) (.cons (.int .i64 y_6.1) .nil))) [(.row 9 .str y_6.2)]) ∧ ((True) ∧ ((True) ∧ ((True) ∧ ((True) ∧ ((True) ∧ (True))))))))) := ⟨trivial, ⟨trivial, ⟨trivial, ⟨F83_ok n text size fates y_6 hx1, ⟨trivial, ⟨trivial, ⟨trivial, ⟨trivial, ⟨trivial, trivial⟩⟩⟩⟩⟩⟩⟩⟩⟩
  refine TS.reg [.none, .none, .none, (.call (.tup (.cons (.row 0) (.cons (.int .i64 y_6.1) .nil))) [(.row 9 .str y_6.2)])] ?_ ?_
  · apply prop_of ?_ hq
    kernel_rfl
  refine XS.then ?_
  refine TS.seq ?_
  refine TS.seq ?_
  have hq : (True) ∧ ((True) ∧ (True)) := ⟨trivial, ⟨trivial, trivial⟩⟩
  refine TS.reg [] ?_ ?_
  · apply prop_of ?_ hq
    kernel_rfl
  refine XS.then ?_
  rcases bif_some h with ⟨c2, h⟩ | ⟨c3, h⟩
  · refine TS.cond (y_6.1 != (0 : Int)) ?_ (fun hcz => ?_) (fun hcz => by rw [c2] at hcz; cases hcz)
    · kernel_rfl
    refine TS.seq ?_
    have hq : (True) ∧ ((True) ∧ ((True) ∧ ((True) ∧ (True)))) := ⟨trivial, ⟨trivial, ⟨trivial, ⟨trivial, trivial⟩⟩⟩⟩
    refine TS.reg [] ?_ ?_
    · apply prop_of ?_ hq
      kernel_rfl
    refine XS.then ?_
    refine TS.ret ?_
    refine XS.passR ?_
    obtain rfl : ((0 : Int), ([] : List UInt8), (0 : Int), (0 : Int), y_6.1) = r := Option.some.inj h
    exact XS.fin [] ((True) ∧ ((True) ∧ (True))) (by kernel_rfl) ⟨trivial, ⟨trivial, trivial⟩⟩
  · refine TS.cond (y_6.1 != (0 : Int)) ?_ (fun hcz => by rw [c3] at hcz; cases hcz) (fun hcz => ?_)
    · kernel_rfl
    refine TS.skip ?_
    refine XS.then ?_
    refine TS.seq ?_
    obtain ⟨y_7, hx4, h⟩ := bind_some' h
    have hq : (True) ∧ ((((True) ∧ (True)) ∧ PureC Try.prog 84 [(.sl .str y_6.2)] (.tup (.cons (.st (.cons (.int .i64 y_7.1) (.cons (.int .i64 y_7.2.1) (.cons (.row 0) .nilS)))) (.cons (.int .i64 y_7.2.2.1) .nil))) [(.row 9 .str y_7.2.2.2)]) ∧ ((True) ∧ ((True) ∧ ((True) ∧ ((True) ∧ ((True) ∧ ((True) ∧ (True)))))))) := ⟨trivial, ⟨⟨⟨trivial, trivial⟩, F84_ok n y_6.2 y_7 hx4⟩, ⟨trivial, ⟨trivial, ⟨trivial, ⟨trivial, ⟨trivial, ⟨trivial, trivial⟩⟩⟩⟩⟩⟩⟩⟩
    refine TS.reg [.none, (.call (.tup (.cons (.st (.cons (.int .i64 y_7.1) (.cons (.int .i64 y_7.2.1) (.cons (.row 0) .nilS)))) (.cons (.int .i64 y_7.2.2.1) .nil))) [(.row 9 .str y_7.2.2.2)])] ?_ ?_
    · apply prop_of ?_ hq
      kernel_rfl
    refine XS.then ?_
    refine TS.seq ?_
    have hq : ((True) ∧ (True)) ∧ ((True) ∧ ((True) ∧ (True))) := ⟨⟨trivial, trivial⟩, ⟨trivial, ⟨trivial, trivial⟩⟩⟩
    refine TS.reg [] ?_ ?_
    · apply prop_of ?_ hq
      kernel_rfl
    refine XS.then ?_
    refine TS.seq ?_
    have hq : (True) ∧ (True) := ⟨trivial, trivial⟩
    refine TS.reg [] ?_ ?_
    · apply prop_of ?_ hq
      kernel_rfl
    refine XS.then ?_
    refine TS.seq ?_
    refine TS.seq ?_
    have hq : (True) ∧ ((True) ∧ ((True) ∧ (True))) := ⟨trivial, ⟨trivial, ⟨trivial, trivial⟩⟩⟩
    refine TS.reg [] ?_ ?_
    · apply prop_of ?_ hq
      kernel_rfl
    refine XS.then ?_
    refine TS.cut (D := Int × Int × (List (List UInt8)) × (List (List UInt8)) × Int × Int) (fun d => match d with | (m2, m2_2, m3, m4, m5, m5_2) => (mkTs 96 [(6, (.ptr 0 [])), (8, (.row 1)), (10, (.ptr 2 [])), (12, (.ptr 5 []))], [(.box 58 (.st (.cons (.int .i64 (0 : Int)) (.cons (.str ([] : List UInt8)) (.cons (.int .i64 (0 : Int)) (.int .i64 (0 : Int))))))), (.row 9 .str y_6.2), (.box 131 (.st (.cons (.int .i64 m2) (.cons (.int .i64 m2_2) (.cons (.row 3) (.row 4)))))), (.row 9 .str m3), (.row 9 .str m4), (.box 58 (.st (.cons (.int .i64 m5) (.cons (.str ([] : List UInt8)) (.cons (.int .i64 (0 : Int)) (.int .i64 m5_2))))))])) (fun d => F31_j33 n y_6 d = some r) ?_ ?_
    · rintro ⟨m2, m2_2, m3, m4, m5, m5_2⟩ h
      replace h : ((F61 n m4 ([] : List UInt8)).bind fun y_8 => (bif subB y_6.2.length none (some (IntKind.wrap .i64 (((y_6.2.length : Nat) : Int) - ((m3.length : Nat) : Int)))) then (loopF (F31_l34 n y_6 m3 m5 m5_2 y_8) n ((0 : Int), (0 : Int))) else none)) = some r := h
      refine XS.then ?_
      refine TS.seq ?_
      obtain ⟨y_8, hx5, h⟩ := bind_some' h
      have hq : (True) ∧ ((True) ∧ ((((True) ∧ ((True) ∧ (True))) ∧ PureC Try.prog 61 [(.sl .str m4), (.str ([] : List UInt8))] (.str y_8) []) ∧ ((True) ∧ ((True) ∧ (True))))) := ⟨trivial, ⟨trivial, ⟨⟨⟨trivial, ⟨trivial, trivial⟩⟩, F61_ok n m4 ([] : List UInt8) y_8 hx5⟩, ⟨trivial, ⟨trivial, trivial⟩⟩⟩⟩⟩
      refine TS.reg [.none, .none, (.call (.str y_8) [])] ?_ ?_
      · apply prop_of ?_ hq
        kernel_rfl
      refine XS.then ?_
      refine TS.seq ?_
      refine TS.seq ?_
      refine TS.wk (.frz 1) ?_
      obtain ⟨t6, h⟩ := test_some h
      have hq : (True) ∧ ((True) ∧ ((True) ∧ ((True) ∧ ((True) ∧ ((True) ∧ ((True) ∧ ((subC y_6.2.length none (some (IntKind.wrap .i64 (((y_6.2.length : Nat) : Int) - ((m3.length : Nat) : Int))))) ∧ ((True) ∧ ((True) ∧ (True)))))))))) := ⟨trivial, ⟨trivial, ⟨trivial, ⟨trivial, ⟨trivial, ⟨trivial, ⟨trivial, ⟨subB_ok t6, ⟨trivial, ⟨trivial, trivial⟩⟩⟩⟩⟩⟩⟩⟩⟩⟩
      refine TS.reg [] ?_ ?_
      · apply prop_of ?_ hq
        kernel_rfl
      refine XS.then ?_
      refine TS.block ?_
      refine TS.reLoop [0, 5] (mkMask 96 [6, 12, 82, 83, 84]) (D := Int × Int) (fun d => match d with | (x, m1) => (mkTs 96 [(6, (.ptr 0 [])), (12, (.ptr 1 [])), (82, (.sl .str (y_6.2.take (IntKind.wrap .i64 (((y_6.2.length : Nat) : Int) - ((m3.length : Nat) : Int))).toNat))), (83, (.int .i64 (((y_6.2.take (IntKind.wrap .i64 (((y_6.2.length : Nat) : Int) - ((m3.length : Nat) : Int))).toNat).length : Nat) : Int))), (84, (.int .i64 x))], [(.box 58 (.st (.cons (.int .i64 (0 : Int)) (.cons (.str ([] : List UInt8)) (.cons (.int .i64 (0 : Int)) (.int .i64 (0 : Int))))))), (.box 58 (.st (.cons (.int .i64 m5) (.cons (.str y_8) (.cons (.int .i64 m1) (.int .i64 m5_2))))))])) (fun n' d => loopF (F31_l34 n y_6 m3 m5 m5_2 y_8) n' d = some r) n ((0 : Int), (0 : Int)) h ?_ (fun d => loopF_zero _ d r) ?_
      · kernel_rfl
      · rintro n34 ⟨x, m1⟩ h
        replace h : (bif (decide (x < (((y_6.2.take (IntKind.wrap .i64 (((y_6.2.length : Nat) : Int) - ((m3.length : Nat) : Int))).toNat).length : Nat) : Int))) then (bif inb x ((y_6.2.take (IntKind.wrap .i64 (((y_6.2.length : Nat) : Int) - ((m3.length : Nat) : Int))).toNat).length) then ((loopF (F31_l34 n y_6 m3 m5 m5_2 y_8) n34) ((IntKind.wrap .i64 (x + (1 : Int))), (IntKind.wrap .i64 (m1 + ((((y_6.2.take (IntKind.wrap .i64 (((y_6.2.length : Nat) : Int) - ((m3.length : Nat) : Int))).toNat).getD x.toNat ([] : List UInt8)).length : Nat) : Int))))) else none) else (some (m5, y_8, m1, m5_2, (0 : Int)))) = some r := h
        refine TS.seq ?_
        have hq : (True) ∧ (True) := ⟨trivial, trivial⟩
        refine TS.reg [] ?_ ?_
        · apply prop_of ?_ hq
          kernel_rfl
        refine XS.then ?_
        refine TS.seq ?_
        rcases bif_some h with ⟨c7, h⟩ | ⟨c8, h⟩
        · refine TS.cond (decide (x < (((y_6.2.take (IntKind.wrap .i64 (((y_6.2.length : Nat) : Int) - ((m3.length : Nat) : Int))).toNat).length : Nat) : Int))) ?_ (fun hcz => ?_) (fun hcz => by rw [c7] at hcz; cases hcz)
          · kernel_rfl
          refine TS.skip ?_
          refine XS.then ?_
          refine TS.seq ?_
          refine TS.block ?_
          refine TS.seq ?_
          obtain ⟨t9, h⟩ := test_some h
          have hq : (inR x ((y_6.2.take (IntKind.wrap .i64 (((y_6.2.length : Nat) : Int) - ((m3.length : Nat) : Int))).toNat).length)) ∧ ((True) ∧ ((True) ∧ (True))) := ⟨inb_ok t9, ⟨trivial, ⟨trivial, trivial⟩⟩⟩
          refine TS.reg [] ?_ ?_
          · apply prop_of ?_ hq
            kernel_rfl
          refine XS.then ?_
          have hq : (True) ∧ ((True) ∧ ((True) ∧ ((True) ∧ ((True) ∧ ((True) ∧ ((True) ∧ (True))))))) := ⟨trivial, ⟨trivial, ⟨trivial, ⟨trivial, ⟨trivial, ⟨trivial, ⟨trivial, trivial⟩⟩⟩⟩⟩⟩⟩
          refine TS.reg [] ?_ ?_
          · apply prop_of ?_ hq
            kernel_rfl
          refine XS.blockEnd ?_
          refine XS.then ?_
          have hq : (True) ∧ ((True) ∧ (True)) := ⟨trivial, ⟨trivial, trivial⟩⟩
          refine TS.reg [] ?_ ?_
          · apply prop_of ?_ hq
            kernel_rfl
          refine XS.reAny [0, 1] (mkMask 96 [6, 12, 82, 83, 84]) ((IntKind.wrap .i64 (x + (1 : Int))), (IntKind.wrap .i64 (m1 + ((((y_6.2.take (IntKind.wrap .i64 (((y_6.2.length : Nat) : Int) - ((m3.length : Nat) : Int))).toNat).getD x.toNat ([] : List UInt8)).length : Nat) : Int)))) h ?_
          kernel_rfl
        · refine TS.cond (decide (x < (((y_6.2.take (IntKind.wrap .i64 (((y_6.2.length : Nat) : Int) - ((m3.length : Nat) : Int))).toNat).length : Nat) : Int))) ?_ (fun hcz => by rw [c8] at hcz; cases hcz) (fun hcz => ?_)
          · kernel_rfl
          refine TS.exit ?_
          refine XS.passE ?_
          refine XS.passE ?_
          refine XS.out ?_
          refine XS.then ?_
          refine TS.seq ?_
          have hq : (True) ∧ ((True) ∧ ((True) ∧ (True))) := ⟨trivial, ⟨trivial, ⟨trivial, trivial⟩⟩⟩
          refine TS.reg [] ?_ ?_
          · apply prop_of ?_ hq
            kernel_rfl
          refine XS.then ?_
          refine TS.ret ?_
          obtain rfl : (m5, y_8, m1, m5_2, (0 : Int)) = r := Option.some.inj h
          exact XS.fin [] ((True) ∧ ((True) ∧ (True))) (by kernel_rfl) ⟨trivial, ⟨trivial, trivial⟩⟩
    · refine TS.block ?_
      refine TS.wk (.row true 3 [true, true, true] 9 .str) ?_
      refine TS.reLoop [0, 1, 3, 2, 5, 4] (mkMask 96 [6, 8, 10, 12, 13, 35, 36, 37]) (D := Int × Int × Int × Int × (List (List UInt8)) × (List (List UInt8))) (fun d => match d with | (errors, x_2, m2_3, m2_4, m3_2, m4_2) => (mkTs 96 [(6, (.ptr 0 [])), (8, (.row 1)), (10, (.ptr 2 [])), (12, (.ptr 5 [])), (13, (.int .i64 errors)), (35, (.sl (.int .i64) fates)), (36, (.int .i64 ((fates.length : Nat) : Int))), (37, (.int .i64 x_2))], [(.box 58 (.st (.cons (.int .i64 (0 : Int)) (.cons (.str ([] : List UInt8)) (.cons (.int .i64 (0 : Int)) (.int .i64 (0 : Int))))))), (.row 9 .str y_6.2), (.box 131 (.st (.cons (.int .i64 m2_3) (.cons (.int .i64 m2_4) (.cons (.row 3) (.row 4)))))), (.row 9 .str m3_2), (.row 9 .str m4_2), (.box 58 (.st (.cons (.int .i64 (10 : Int)) (.cons (.str ([] : List UInt8)) (.cons (.int .i64 (0 : Int)) (.int .i64 x_2))))))])) (fun n' d => loopF (F31_l41 n fates y_6) n' d = some r) n ((0 : Int), (0 : Int), y_7.1, y_7.2.1, y_7.2.2.2, ([] : List (List UInt8))) h ?_ (fun d => loopF_zero _ d r) ?_
      · kernel_rfl
      · rintro n41 ⟨errors, x_2, m2_3, m2_4, m3_2, m4_2⟩ h
        replace h : (bif (decide (x_2 < ((fates.length : Nat) : Int))) then (bif inb x_2 fates.length then (bif ((fates.getD x_2.toNat (0 : Int)) == (5 : Int)) then (F31_j33 n y_6 (m2_3, m2_4, m3_2, m4_2, (8 : Int), (IntKind.wrap .i64 (x_2 + (1 : Int))))) else ((F85 n m2_3 m2_4 m3_2 m4_2 (fates.getD x_2.toNat (0 : Int))).bind fun y_9 => (bif ((fates.getD x_2.toNat (0 : Int)) == (2 : Int)) then (F31_j44 n (loopF (F31_l41 n fates y_6) n41) fates y_6 errors x_2 y_9 ((fates.getD x_2.toNat (0 : Int)) == (2 : Int))) else (F31_j44 n (loopF (F31_l41 n fates y_6) n41) fates y_6 errors x_2 y_9 ((fates.getD x_2.toNat (0 : Int)) == (3 : Int)))))) else none) else (F31_j33 n y_6 (m2_3, m2_4, m3_2, m4_2, (10 : Int), x_2))) = some r := h
        refine TS.seq ?_
        have hq : (True) ∧ (True) := ⟨trivial, trivial⟩
        refine TS.reg [] ?_ ?_
        · apply prop_of ?_ hq
          kernel_rfl
        refine XS.then ?_
        refine TS.seq ?_
        rcases bif_some h with ⟨c10, h⟩ | ⟨c11, h⟩
        · refine TS.cond (decide (x_2 < ((fates.length : Nat) : Int))) ?_ (fun hcz => ?_) (fun hcz => by rw [c10] at hcz; cases hcz)
          · kernel_rfl
          refine TS.skip ?_
          refine XS.then ?_
          refine TS.seq ?_
          refine TS.block ?_
          refine TS.seq ?_
          obtain ⟨t12, h⟩ := test_some h
          have hq : (inR x_2 fates.length) ∧ ((True) ∧ ((True) ∧ (True))) := ⟨inb_ok t12, ⟨trivial, ⟨trivial, trivial⟩⟩⟩
          refine TS.reg [] ?_ ?_
          · apply prop_of ?_ hq
            kernel_rfl
          refine XS.then ?_
          refine TS.seq ?_
          have hq : (True) ∧ ((True) ∧ ((True) ∧ ((True) ∧ ((True) ∧ (True))))) := ⟨trivial, ⟨trivial, ⟨trivial, ⟨trivial, ⟨trivial, trivial⟩⟩⟩⟩⟩
          refine TS.reg [] ?_ ?_
          · apply prop_of ?_ hq
            kernel_rfl
          refine XS.then ?_
          refine TS.seq ?_
          refine TS.seq ?_
          have hq : (True) ∧ ((True) ∧ (True)) := ⟨trivial, ⟨trivial, trivial⟩⟩
          refine TS.reg [] ?_ ?_
          · apply prop_of ?_ hq
            kernel_rfl
          refine XS.then ?_
          rcases bif_some h with ⟨c13, h⟩ | ⟨c14, h⟩
          · refine TS.cond ((fates.getD x_2.toNat (0 : Int)) == (5 : Int)) ?_ (fun hcz => ?_) (fun hcz => by rw [c13] at hcz; cases hcz)
            · kernel_rfl
            refine TS.seq ?_
            have hq : (True) ∧ ((True) ∧ (True)) := ⟨trivial, ⟨trivial, trivial⟩⟩
            refine TS.reg [] ?_ ?_
            · apply prop_of ?_ hq
              kernel_rfl
            refine XS.then ?_
            refine TS.exit ?_
            refine XS.passE ?_
            refine XS.through (by decide) ?_
            refine XS.passE ?_
            refine XS.passE ?_
            refine XS.out ?_
            refine XS.reAny [0, 1, 2, 3, 4, 5] (mkMask 96 [6, 8, 10, 12]) (m2_3, m2_4, m3_2, m4_2, (8 : Int), (IntKind.wrap .i64 (x_2 + (1 : Int)))) h ?_
            kernel_rfl
          · refine TS.cond ((fates.getD x_2.toNat (0 : Int)) == (5 : Int)) ?_ (fun hcz => by rw [c14] at hcz; cases hcz) (fun hcz => ?_)
            · kernel_rfl
            refine TS.skip ?_
            refine XS.then ?_
            refine TS.seq ?_
            obtain ⟨y_9, hx15, h⟩ := bind_some' h
            have hq : (True) ∧ ((True) ∧ (((((True) ∧ ((True) ∧ ((True) ∧ (True)))) ∧ ((True) ∧ (True))) ∧ PureC Try.prog 85 [(.st (.cons (.int .i64 m2_3) (.cons (.int .i64 m2_4) (.cons (.sl .str m3_2) (.sl .str m4_2))))), (.int .i64 (fates.getD x_2.toNat (0 : Int)))] (.tup (.cons (.st (.cons (.int .i64 y_9.1) (.cons (.int .i64 y_9.2.1) (.cons (.row 0) (.row 1))))) (.cons (.int .i64 y_9.2.2.1) .nil))) [(.row 9 .str y_9.2.2.2.1), (.row 9 .str y_9.2.2.2.2)]) ∧ ((True) ∧ ((True) ∧ ((True) ∧ ((True) ∧ (True))))))) := ⟨trivial, ⟨trivial, ⟨⟨⟨⟨trivial, ⟨trivial, ⟨trivial, trivial⟩⟩⟩, ⟨trivial, trivial⟩⟩, F85_ok n m2_3 m2_4 m3_2 m4_2 (fates.getD x_2.toNat (0 : Int)) y_9 hx15⟩, ⟨trivial, ⟨trivial, ⟨trivial, ⟨trivial, trivial⟩⟩⟩⟩⟩⟩⟩
            refine TS.reg [.none, .none, (.call (.tup (.cons (.st (.cons (.int .i64 y_9.1) (.cons (.int .i64 y_9.2.1) (.cons (.row 0) (.row 1))))) (.cons (.int .i64 y_9.2.2.1) .nil))) [(.row 9 .str y_9.2.2.2.1), (.row 9 .str y_9.2.2.2.2)])] ?_ ?_
            · apply prop_of ?_ hq
              kernel_rfl
            refine XS.then ?_
            refine TS.seq ?_
            refine TS.seq ?_
            have hq : (True) ∧ (True) := ⟨trivial, trivial⟩
            refine TS.reg [] ?_ ?_
            · apply prop_of ?_ hq
              kernel_rfl
            refine XS.then ?_
            refine TS.cut (D := Int) (fun d => match d with | errors_2 => (mkTs 96 [(6, (.ptr 0 [])), (8, (.row 1)), (10, (.ptr 2 [])), (12, (.ptr 5 [])), (13, (.int .i64 errors_2)), (35, (.sl (.int .i64) fates)), (36, (.int .i64 ((fates.length : Nat) : Int))), (37, (.int .i64 x_2))], [(.box 58 (.st (.cons (.int .i64 (0 : Int)) (.cons (.str ([] : List UInt8)) (.cons (.int .i64 (0 : Int)) (.int .i64 (0 : Int))))))), (.row 9 .str y_6.2), (.box 131 (.st (.cons (.int .i64 y_9.1) (.cons (.int .i64 y_9.2.1) (.cons (.row 3) (.row 4)))))), (.row 9 .str y_9.2.2.2.1), (.row 9 .str y_9.2.2.2.2), (.box 58 (.st (.cons (.int .i64 (10 : Int)) (.cons (.str ([] : List UInt8)) (.cons (.int .i64 (0 : Int)) (.int .i64 (IntKind.wrap .i64 (x_2 + (1 : Int)))))))))])) (fun d => F31_j43 n (loopF (F31_l41 n fates y_6) n41) y_6 x_2 y_9 d = some r) ?_ ?_
            · rintro errors_2 h
              replace h : (bif (((y_9.2.2.2.1.length : Nat) : Int) == (0 : Int)) then (F31_j33 n y_6 (y_9.1, y_9.2.1, y_9.2.2.2.1, y_9.2.2.2.2, (0 : Int), (IntKind.wrap .i64 (x_2 + (1 : Int))))) else (bif (errors_2 == (3 : Int)) then (F31_j33 n y_6 (y_9.1, y_9.2.1, y_9.2.2.2.1, y_9.2.2.2.2, (9 : Int), (IntKind.wrap .i64 (x_2 + (1 : Int))))) else ((loopF (F31_l41 n fates y_6) n41) (errors_2, (IntKind.wrap .i64 (x_2 + (1 : Int))), y_9.1, y_9.2.1, y_9.2.2.2.1, y_9.2.2.2.2)))) = some r := h
              refine XS.then ?_
              refine TS.seq ?_
              refine TS.seq ?_
              have hq : (True) ∧ ((True) ∧ ((True) ∧ ((True) ∧ (True)))) := ⟨trivial, ⟨trivial, ⟨trivial, ⟨trivial, trivial⟩⟩⟩⟩
              refine TS.reg [] ?_ ?_
              · apply prop_of ?_ hq
                kernel_rfl
              refine XS.then ?_
              rcases bif_some h with ⟨c16, h⟩ | ⟨c17, h⟩
              · refine TS.cond (((y_9.2.2.2.1.length : Nat) : Int) == (0 : Int)) ?_ (fun hcz => ?_) (fun hcz => by rw [c16] at hcz; cases hcz)
                · kernel_rfl
                refine TS.seq ?_
                have hq : (True) ∧ ((True) ∧ (True)) := ⟨trivial, ⟨trivial, trivial⟩⟩
                refine TS.reg [] ?_ ?_
                · apply prop_of ?_ hq
                  kernel_rfl
                refine XS.then ?_
                refine TS.exit ?_
                refine XS.passE ?_
                refine XS.through (by decide) ?_
                refine XS.passE ?_
                refine XS.passE ?_
                refine XS.out ?_
                refine XS.reAny [0, 1, 2, 3, 4, 5] (mkMask 96 [6, 8, 10, 12]) (y_9.1, y_9.2.1, y_9.2.2.2.1, y_9.2.2.2.2, (0 : Int), (IntKind.wrap .i64 (x_2 + (1 : Int)))) h ?_
                kernel_rfl
              · refine TS.cond (((y_9.2.2.2.1.length : Nat) : Int) == (0 : Int)) ?_ (fun hcz => by rw [c17] at hcz; cases hcz) (fun hcz => ?_)
                · kernel_rfl
                refine TS.skip ?_
                refine XS.then ?_
                refine TS.seq ?_
                have hq : (True) ∧ ((True) ∧ (True)) := ⟨trivial, ⟨trivial, trivial⟩⟩
                refine TS.reg [] ?_ ?_
                · apply prop_of ?_ hq
                  kernel_rfl
                refine XS.then ?_
                rcases bif_some h with ⟨c18, h⟩ | ⟨c19, h⟩
                · refine TS.cond (errors_2 == (3 : Int)) ?_ (fun hcz => ?_) (fun hcz => by rw [c18] at hcz; cases hcz)
                  · kernel_rfl
                  refine TS.seq ?_
                  have hq : (True) ∧ ((True) ∧ (True)) := ⟨trivial, ⟨trivial, trivial⟩⟩
                  refine TS.reg [] ?_ ?_
                  · apply prop_of ?_ hq
                    kernel_rfl
                  refine XS.then ?_
                  refine TS.exit ?_
                  refine XS.through (by decide) ?_
                  refine XS.passE ?_
                  refine XS.passE ?_
                  refine XS.out ?_
                  refine XS.reAny [0, 1, 2, 3, 4, 5] (mkMask 96 [6, 8, 10, 12]) (y_9.1, y_9.2.1, y_9.2.2.2.1, y_9.2.2.2.2, (9 : Int), (IntKind.wrap .i64 (x_2 + (1 : Int)))) h ?_
                  kernel_rfl
                · refine TS.cond (errors_2 == (3 : Int)) ?_ (fun hcz => by rw [c19] at hcz; cases hcz) (fun hcz => ?_)
                  · kernel_rfl
                  refine TS.skip ?_
                  refine XS.blockEnd ?_
                  refine XS.then ?_
                  have hq : (True) ∧ ((True) ∧ (True)) := ⟨trivial, ⟨trivial, trivial⟩⟩
                  refine TS.reg [] ?_ ?_
                  · apply prop_of ?_ hq
                    kernel_rfl
                  refine XS.reAny [0, 1, 2, 3, 4, 5] (mkMask 96 [6, 8, 10, 12, 13, 35, 36, 37]) (errors_2, (IntKind.wrap .i64 (x_2 + (1 : Int))), y_9.1, y_9.2.1, y_9.2.2.2.1, y_9.2.2.2.2) h ?_
                  kernel_rfl
            · refine TS.block ?_
              refine TS.seq ?_
              refine TS.seq ?_
              have hq : (True) ∧ ((True) ∧ (True)) := ⟨trivial, ⟨trivial, trivial⟩⟩
              refine TS.reg [] ?_ ?_
              · apply prop_of ?_ hq
                kernel_rfl
              refine XS.then ?_
              refine TS.cut (D := Bool) (fun d => match d with | x_3 => (mkTs 96 [(6, (.ptr 0 [])), (8, (.row 1)), (10, (.ptr 2 [])), (12, (.ptr 5 [])), (13, (.int .i64 errors)), (35, (.sl (.int .i64) fates)), (36, (.int .i64 ((fates.length : Nat) : Int))), (37, (.int .i64 x_2)), (54, (.int .i64 (fates.getD x_2.toNat (0 : Int)))), (55, (.bool x_3))], [(.box 58 (.st (.cons (.int .i64 (0 : Int)) (.cons (.str ([] : List UInt8)) (.cons (.int .i64 (0 : Int)) (.int .i64 (0 : Int))))))), (.row 9 .str y_6.2), (.box 131 (.st (.cons (.int .i64 y_9.1) (.cons (.int .i64 y_9.2.1) (.cons (.row 3) (.row 4)))))), (.row 9 .str y_9.2.2.2.1), (.row 9 .str y_9.2.2.2.2), (.box 58 (.st (.cons (.int .i64 (10 : Int)) (.cons (.str ([] : List UInt8)) (.cons (.int .i64 (0 : Int)) (.int .i64 (IntKind.wrap .i64 (x_2 + (1 : Int)))))))))])) (fun d => F31_j44 n (loopF (F31_l41 n fates y_6) n41) fates y_6 errors x_2 y_9 d = some r) ?_ ?_
              · rintro x_3 h
                replace h : (bif x_3 then (F31_j43 n (loopF (F31_l41 n fates y_6) n41) y_6 x_2 y_9 (IntKind.wrap .i64 (errors + (1 : Int)))) else (bif ((fates.getD x_2.toNat (0 : Int)) == (1 : Int)) then (F31_j43 n (loopF (F31_l41 n fates y_6) n41) y_6 x_2 y_9 (0 : Int)) else (F31_j43 n (loopF (F31_l41 n fates y_6) n41) y_6 x_2 y_9 errors))) = some r := h
                refine XS.then ?_
                rcases bif_some h with ⟨c20, h⟩ | ⟨c21, h⟩
                · refine TS.cond x_3 ?_ (fun hcz => ?_) (fun hcz => by rw [c20] at hcz; cases hcz)
                  · kernel_rfl
                  have hq : (True) ∧ ((True) ∧ ((True) ∧ (True))) := ⟨trivial, ⟨trivial, ⟨trivial, trivial⟩⟩⟩
                  refine TS.reg [] ?_ ?_
                  · apply prop_of ?_ hq
                    kernel_rfl
                  refine XS.blockEnd ?_
                  refine XS.reAny [0, 1, 2, 3, 4, 5] (mkMask 96 [6, 8, 10, 12, 13, 35, 36, 37]) (IntKind.wrap .i64 (errors + (1 : Int))) h ?_
                  kernel_rfl
                · refine TS.cond x_3 ?_ (fun hcz => by rw [c21] at hcz; cases hcz) (fun hcz => ?_)
                  · kernel_rfl
                  refine TS.seq ?_
                  have hq : (True) ∧ ((True) ∧ (True)) := ⟨trivial, ⟨trivial, trivial⟩⟩
                  refine TS.reg [] ?_ ?_
                  · apply prop_of ?_ hq
                    kernel_rfl
                  refine XS.then ?_
                  rcases bif_some h with ⟨c22, h⟩ | ⟨c23, h⟩
                  · refine TS.cond ((fates.getD x_2.toNat (0 : Int)) == (1 : Int)) ?_ (fun hcz => ?_) (fun hcz => by rw [c22] at hcz; cases hcz)
                    · kernel_rfl
                    have hq : (True) ∧ (True) := ⟨trivial, trivial⟩
                    refine TS.reg [] ?_ ?_
                    · apply prop_of ?_ hq
                      kernel_rfl
                    refine XS.blockEnd ?_
                    refine XS.reAny [0, 1, 2, 3, 4, 5] (mkMask 96 [6, 8, 10, 12, 13, 35, 36, 37]) (0 : Int) h ?_
                    kernel_rfl
                  · refine TS.cond ((fates.getD x_2.toNat (0 : Int)) == (1 : Int)) ?_ (fun hcz => by rw [c23] at hcz; cases hcz) (fun hcz => ?_)
                    · kernel_rfl
                    refine TS.skip ?_
                    refine XS.blockEnd ?_
                    refine XS.reAny [0, 1, 2, 3, 4, 5] (mkMask 96 [6, 8, 10, 12, 13, 35, 36, 37]) errors h ?_
                    kernel_rfl
              · rcases bif_some h with ⟨c24, h⟩ | ⟨c25, h⟩
                · refine TS.cond ((fates.getD x_2.toNat (0 : Int)) == (2 : Int)) ?_ (fun hcz => ?_) (fun hcz => by rw [c24] at hcz; cases hcz)
                  · kernel_rfl
                  refine TS.skip ?_
                  refine XS.reAny [0, 1, 2, 6, 7, 5] (mkMask 96 [6, 8, 10, 12, 13, 35, 36, 37, 54, 55]) ((fates.getD x_2.toNat (0 : Int)) == (2 : Int)) h ?_
                  kernel_rfl
                · refine TS.cond ((fates.getD x_2.toNat (0 : Int)) == (2 : Int)) ?_ (fun hcz => by rw [c25] at hcz; cases hcz) (fun hcz => ?_)
                  · kernel_rfl
                  have hq : (True) ∧ ((True) ∧ (True)) := ⟨trivial, ⟨trivial, trivial⟩⟩
                  refine TS.reg [] ?_ ?_
                  · apply prop_of ?_ hq
                    kernel_rfl
                  refine XS.reAny [0, 1, 2, 6, 7, 5] (mkMask 96 [6, 8, 10, 12, 13, 35, 36, 37, 54, 55]) ((fates.getD x_2.toNat (0 : Int)) == (3 : Int)) h ?_
                  kernel_rfl
        · refine TS.cond (decide (x_2 < ((fates.length : Nat) : Int))) ?_ (fun hcz => by rw [c11] at hcz; cases hcz) (fun hcz => ?_)
          · kernel_rfl
          refine TS.exit ?_
          refine XS.passE ?_
          refine XS.passE ?_
          refine XS.out ?_
          refine XS.reAny [0, 1, 2, 3, 4, 5] (mkMask 96 [6, 8, 10, 12]) (m2_3, m2_4, m3_2, m4_2, (10 : Int), x_2) h ?_
          kernel_rfl

/-! plugtree/plugref.Between -/
def F15 (n : Nat) (vn : Int) (low : Int) (high : Int) : Option Bool := (bif (decide (low ≤ vn)) then (some (decide (vn ≤ high))) else (some false))
theorem F15_ok (n : Nat) (vn : Int) (low : Int) (high : Int) (r : Bool) (h : F15 n vn low high = some r) : PureC Try.prog 15 [(.int .i64 vn), (.int .i64 low), (.int .i64 high)] (.bool r) [] := by
  refine PureC.mkS Try.func15 rfl rfl ?_
  intro w0 fz0 hfz
  replace h : (bif (decide (low ≤ vn)) then (some (decide (vn ≤ high))) else (some false)) = some r := h
  refine TS.seq ?_
  have hq : (True) ∧ (True) := ⟨trivial, trivial⟩
  refine TS.reg [] ?_ ?_
  · apply prop_of ?_ hq
    kernel_rfl
  refine XS.then ?_
  refine TS.seq ?_
  rcases bif_some h with ⟨c1, h⟩ | ⟨c2, h⟩
  · have hq : (True) ∧ ((True) ∧ ((True) ∧ (((True) ∧ (decide (low ≤ vn)) = true) ∧ ((True) ∧ ((True) ∧ ((True) ∧ ((True) ∧ ((True) ∧ (True))))))))) := ⟨trivial, ⟨trivial, ⟨trivial, ⟨⟨trivial, c1⟩, ⟨trivial, ⟨trivial, ⟨trivial, ⟨trivial, ⟨trivial, trivial⟩⟩⟩⟩⟩⟩⟩⟩⟩
    refine TS.reg [.none, .none, .none, .dec true] ?_ ?_
    · apply prop_of ?_ hq
      kernel_rfl
    refine XS.then ?_
    refine TS.ret ?_
    obtain rfl : (decide (vn ≤ high)) = r := Option.some.inj h
    exact XS.fin [] ((True) ∧ (True)) (by kernel_rfl) ⟨trivial, trivial⟩
  · have hq : (True) ∧ ((True) ∧ ((True) ∧ (((True) ∧ (decide (low ≤ vn)) = false) ∧ ((True) ∧ ((True) ∧ (True)))))) := ⟨trivial, ⟨trivial, ⟨trivial, ⟨⟨trivial, c2⟩, ⟨trivial, ⟨trivial, trivial⟩⟩⟩⟩⟩⟩
    refine TS.reg [.none, .none, .none, .dec false] ?_ ?_
    · apply prop_of ?_ hq
      kernel_rfl
    refine XS.then ?_
    refine TS.ret ?_
    obtain rfl : false = r := Option.some.inj h
    exact XS.fin [] ((True) ∧ (True)) (by kernel_rfl) ⟨trivial, trivial⟩

/-! plugtree/plugref.Pieces -/
def F86_l2 (n : Nat) (text : List UInt8) (size : Int) (k86_2 : (Int × (List (List UInt8))) → Option (Int × (List (List UInt8)))) : (Int × (List (List UInt8))) → Option (Int × (List (List UInt8)))
  | (x, m0) => (bif (decide (x < (((List.replicate (IntKind.wrap .i64 ((IntKind.wrap .i64 (((text.length : Nat) : Int).tdiv size)) + (1 : Int))).toNat ([] : List UInt8)).length : Nat) : Int))) then (bif subB text.length (some (IntKind.wrap .i64 (x * size))) (some (if (IntKind.wrap .i64 ((IntKind.wrap .i64 (x + (1 : Int))) * size)) < ((text.length : Nat) : Int) then (IntKind.wrap .i64 ((IntKind.wrap .i64 (x + (1 : Int))) * size)) else ((text.length : Nat) : Int))) then (bif inb x m0.length then (k86_2 ((IntKind.wrap .i64 (x + (1 : Int))), (m0.set x.toNat ((text.take (if (IntKind.wrap .i64 ((IntKind.wrap .i64 (x + (1 : Int))) * size)) < ((text.length : Nat) : Int) then (IntKind.wrap .i64 ((IntKind.wrap .i64 (x + (1 : Int))) * size)) else ((text.length : Nat) : Int)).toNat).drop (IntKind.wrap .i64 (x * size)).toNat)))) else none) else none) else (some ((0 : Int), m0)))
def F86 (n : Nat) (text : List UInt8) (size : Int) : Option (Int × (List (List UInt8))) := ((F15 n size (1 : Int) (64 : Int)).bind fun y_3 => (bif (!y_3) then (some ((1 : Int), ([] : List (List UInt8)))) else (bif (decide (((text.length : Nat) : Int) > (4096 : Int))) then (some ((2 : Int), ([] : List (List UInt8)))) else (bif (size != 0) then (bif (decide (0 ≤ (IntKind.wrap .i64 ((IntKind.wrap .i64 (((text.length : Nat) : Int).tdiv size)) + (1 : Int))) ∧ (IntKind.wrap .i64 ((IntKind.wrap .i64 (((text.length : Nat) : Int).tdiv size)) + (1 : Int))) ≤ 17179869184)) then (loopF (F86_l2 n text size) n ((0 : Int), (List.replicate (IntKind.wrap .i64 ((IntKind.wrap .i64 (((text.length : Nat) : Int).tdiv size)) + (1 : Int))).toNat ([] : List UInt8)))) else none) else none))))
theorem F86_ok (n : Nat) (text : List UInt8) (size : Int) (r : Int × (List (List UInt8))) (h : F86 n text size = some r) : PureC Try.prog 86 [(.str text), (.int .i64 size)] (.tup (.cons (.row 0) (.cons (.int .i64 r.1) .nil))) [(.row 9 .str r.2)] := by
  refine PureC.mkS Try.func86 rfl rfl ?_
  intro w0 fz0 hfz
  replace h : ((F15 n size (1 : Int) (64 : Int)).bind fun y_3 => (bif (!y_3) then (some ((1 : Int), ([] : List (List UInt8)))) else (bif (decide (((text.length : Nat) : Int) > (4096 : Int))) then (some ((2 : Int), ([] : List (List UInt8)))) else (bif (size != 0) then (bif (decide (0 ≤ (IntKind.wrap .i64 ((IntKind.wrap .i64 (((text.length : Nat) : Int).tdiv size)) + (1 : Int))) ∧ (IntKind.wrap .i64 ((IntKind.wrap .i64 (((text.length : Nat) : Int).tdiv size)) + (1 : Int))) ≤ 17179869184)) then (loopF (F86_l2 n text size) n ((0 : Int), (List.replicate (IntKind.wrap .i64 ((IntKind.wrap .i64 (((text.length : Nat) : Int).tdiv size)) + (1 : Int))).toNat ([] : List UInt8)))) else none) else none)))) = some r := h
  refine TS.seq ?_
  have hq : (True) ∧ ((True) ∧ (True)) := ⟨trivial, ⟨trivial, trivial⟩⟩
  refine TS.reg [] ?_ ?_
  · apply prop_of ?_ hq
    kernel_rfl
  refine XS.then ?_
  refine TS.seq ?_
  refine TS.seq ?_
  obtain ⟨y_3, hx1, h⟩ := bind_some' h
  have hq : (True) ∧ ((PureC Try.prog 15 [(.int .i64 size), (.int .i64 (1 : Int)), (.int .i64 (64 : Int))] (.bool y_3) []) ∧ ((True) ∧ (True))) := ⟨trivial, ⟨F15_ok n size (1 : Int) (64 : Int) y_3 hx1, ⟨trivial, trivial⟩⟩⟩
  refine TS.reg [.none, (.call (.bool y_3) [])] ?_ ?_
  · apply prop_of ?_ hq
    kernel_rfl
  refine XS.then ?_
  rcases bif_some h with ⟨c2, h⟩ | ⟨c3, h⟩
  · refine TS.cond (!y_3) ?_ (fun hcz => ?_) (fun hcz => by rw [c2] at hcz; cases hcz)
    · kernel_rfl
    refine TS.seq ?_
    have hq : (True) ∧ ((True) ∧ (True)) := ⟨trivial, ⟨trivial, trivial⟩⟩
    refine TS.reg [] ?_ ?_
    · apply prop_of ?_ hq
      kernel_rfl
    refine XS.then ?_
    refine TS.ret ?_
    refine XS.passR ?_
    obtain rfl : ((1 : Int), ([] : List (List UInt8))) = r := Option.some.inj h
    refine XS.wk (.row false 4 [] 9 .str) ?_
    exact XS.fin [0] ((True) ∧ ((True) ∧ (True))) (by kernel_rfl) ⟨trivial, ⟨trivial, trivial⟩⟩
  · refine TS.cond (!y_3) ?_ (fun hcz => by rw [c3] at hcz; cases hcz) (fun hcz => ?_)
    · kernel_rfl
    refine TS.skip ?_
    refine XS.then ?_
    refine TS.seq ?_
    refine TS.seq ?_
    have hq : (True) ∧ ((True) ∧ ((True) ∧ (True))) := ⟨trivial, ⟨trivial, ⟨trivial, trivial⟩⟩⟩
    refine TS.reg [] ?_ ?_
    · apply prop_of ?_ hq
      kernel_rfl
    refine XS.then ?_
    rcases bif_some h with ⟨c4, h⟩ | ⟨c5, h⟩
    · refine TS.cond (decide (((text.length : Nat) : Int) > (4096 : Int))) ?_ (fun hcz => ?_) (fun hcz => by rw [c4] at hcz; cases hcz)
      · kernel_rfl
      refine TS.seq ?_
      have hq : (True) ∧ ((True) ∧ (True)) := ⟨trivial, ⟨trivial, trivial⟩⟩
      refine TS.reg [] ?_ ?_
      · apply prop_of ?_ hq
        kernel_rfl
      refine XS.then ?_
      refine TS.ret ?_
      refine XS.passR ?_
      obtain rfl : ((2 : Int), ([] : List (List UInt8))) = r := Option.some.inj h
      refine XS.wk (.row false 4 [] 9 .str) ?_
      exact XS.fin [0] ((True) ∧ ((True) ∧ (True))) (by kernel_rfl) ⟨trivial, ⟨trivial, trivial⟩⟩
    · refine TS.cond (decide (((text.length : Nat) : Int) > (4096 : Int))) ?_ (fun hcz => by rw [c5] at hcz; cases hcz) (fun hcz => ?_)
      · kernel_rfl
      refine TS.skip ?_
      refine XS.then ?_
      refine TS.seq ?_
      obtain ⟨t6, h⟩ := test_some h
      obtain ⟨t7, h⟩ := test_some h
      have hq : (True) ∧ ((True) ∧ ((True) ∧ ((size ≠ 0) ∧ ((True) ∧ (((IntKind.wrap .i64 ((IntKind.wrap .i64 (((text.length : Nat) : Int).tdiv size)) + (1 : Int))) = (IntKind.wrap .i64 ((IntKind.wrap .i64 (((text.length : Nat) : Int).tdiv size)) + (1 : Int))) ∧ (0 ≤ (IntKind.wrap .i64 ((IntKind.wrap .i64 (((text.length : Nat) : Int).tdiv size)) + (1 : Int))) ∧ (IntKind.wrap .i64 ((IntKind.wrap .i64 (((text.length : Nat) : Int).tdiv size)) + (1 : Int))) ≤ 17179869184)) ∧ ((True) ∧ (True))))))) := ⟨trivial, ⟨trivial, ⟨trivial, ⟨bne_ok t6, ⟨trivial, ⟨⟨rfl, of_decide_eq_true t7⟩, ⟨trivial, trivial⟩⟩⟩⟩⟩⟩⟩
      refine TS.reg [] ?_ ?_
      · apply prop_of ?_ hq
        kernel_rfl
      refine XS.then ?_
      refine TS.seq ?_
      refine TS.seq ?_
      have hq : (True) ∧ ((True) ∧ ((True) ∧ (True))) := ⟨trivial, ⟨trivial, ⟨trivial, trivial⟩⟩⟩
      refine TS.reg [] ?_ ?_
      · apply prop_of ?_ hq
        kernel_rfl
      refine XS.then ?_
      refine TS.block ?_
      refine TS.reLoop [0] (mkMask 42 [0, 1, 6, 21, 22]) (D := Int × (List (List UInt8))) (fun d => match d with | (x, m0) => (mkTs 42 [(0, (.str text)), (1, (.int .i64 size)), (6, (.row 0)), (21, (.int .i64 (((List.replicate (IntKind.wrap .i64 ((IntKind.wrap .i64 (((text.length : Nat) : Int).tdiv size)) + (1 : Int))).toNat ([] : List UInt8)).length : Nat) : Int))), (22, (.int .i64 x))], [(.row 9 .str m0)])) (fun n' d => loopF (F86_l2 n text size) n' d = some r) n ((0 : Int), (List.replicate (IntKind.wrap .i64 ((IntKind.wrap .i64 (((text.length : Nat) : Int).tdiv size)) + (1 : Int))).toNat ([] : List UInt8))) h ?_ (fun d => loopF_zero _ d r) ?_
      · kernel_rfl
      · rintro n2 ⟨x, m0⟩ h
        replace h : (bif (decide (x < (((List.replicate (IntKind.wrap .i64 ((IntKind.wrap .i64 (((text.length : Nat) : Int).tdiv size)) + (1 : Int))).toNat ([] : List UInt8)).length : Nat) : Int))) then (bif subB text.length (some (IntKind.wrap .i64 (x * size))) (some (if (IntKind.wrap .i64 ((IntKind.wrap .i64 (x + (1 : Int))) * size)) < ((text.length : Nat) : Int) then (IntKind.wrap .i64 ((IntKind.wrap .i64 (x + (1 : Int))) * size)) else ((text.length : Nat) : Int))) then (bif inb x m0.length then ((loopF (F86_l2 n text size) n2) ((IntKind.wrap .i64 (x + (1 : Int))), (m0.set x.toNat ((text.take (if (IntKind.wrap .i64 ((IntKind.wrap .i64 (x + (1 : Int))) * size)) < ((text.length : Nat) : Int) then (IntKind.wrap .i64 ((IntKind.wrap .i64 (x + (1 : Int))) * size)) else ((text.length : Nat) : Int)).toNat).drop (IntKind.wrap .i64 (x * size)).toNat)))) else none) else none) else (some ((0 : Int), m0))) = some r := h
        refine TS.seq ?_
        have hq : (True) ∧ (True) := ⟨trivial, trivial⟩
        refine TS.reg [] ?_ ?_
        · apply prop_of ?_ hq
          kernel_rfl
        refine XS.then ?_
        refine TS.seq ?_
        rcases bif_some h with ⟨c8, h⟩ | ⟨c9, h⟩
        · refine TS.cond (decide (x < (((List.replicate (IntKind.wrap .i64 ((IntKind.wrap .i64 (((text.length : Nat) : Int).tdiv size)) + (1 : Int))).toNat ([] : List UInt8)).length : Nat) : Int))) ?_ (fun hcz => ?_) (fun hcz => by rw [c8] at hcz; cases hcz)
          · kernel_rfl
          refine TS.skip ?_
          refine XS.then ?_
          refine TS.seq ?_
          refine TS.block ?_
          refine TS.seq ?_
          have hq : (True) ∧ ((True) ∧ (True)) := ⟨trivial, ⟨trivial, trivial⟩⟩
          refine TS.reg [] ?_ ?_
          · apply prop_of ?_ hq
            kernel_rfl
          refine XS.then ?_
          obtain ⟨t10, h⟩ := test_some h
          obtain ⟨t11, h⟩ := test_some h
          have hq : (True) ∧ ((True) ∧ ((True) ∧ ((True) ∧ ((True) ∧ ((True) ∧ ((True) ∧ ((True) ∧ ((True) ∧ ((True) ∧ ((True) ∧ ((True) ∧ ((True) ∧ ((subC text.length (some (IntKind.wrap .i64 (x * size))) (some (if (IntKind.wrap .i64 ((IntKind.wrap .i64 (x + (1 : Int))) * size)) < ((text.length : Nat) : Int) then (IntKind.wrap .i64 ((IntKind.wrap .i64 (x + (1 : Int))) * size)) else ((text.length : Nat) : Int)))) ∧ ((inR x m0.length) ∧ (((x.toNat < m0.length ∧ (True)) ∧ m0.length = m0.length) ∧ (True)))))))))))))))) := ⟨trivial, ⟨trivial, ⟨trivial, ⟨trivial, ⟨trivial, ⟨trivial, ⟨trivial, ⟨trivial, ⟨trivial, ⟨trivial, ⟨trivial, ⟨trivial, ⟨trivial, ⟨subB_ok t10, ⟨inb_ok t11, ⟨⟨⟨inR_lt (inb_ok t11), trivial⟩, rfl⟩, trivial⟩⟩⟩⟩⟩⟩⟩⟩⟩⟩⟩⟩⟩⟩⟩⟩
          refine TS.reg [] ?_ ?_
          · apply prop_of ?_ hq
            kernel_rfl
          refine XS.blockEnd ?_
          refine XS.then ?_
          have hq : (True) ∧ ((True) ∧ (True)) := ⟨trivial, ⟨trivial, trivial⟩⟩
          refine TS.reg [] ?_ ?_
          · apply prop_of ?_ hq
            kernel_rfl
          refine XS.reAny [0] (mkMask 42 [0, 1, 6, 21, 22]) ((IntKind.wrap .i64 (x + (1 : Int))), (m0.set x.toNat ((text.take (if (IntKind.wrap .i64 ((IntKind.wrap .i64 (x + (1 : Int))) * size)) < ((text.length : Nat) : Int) then (IntKind.wrap .i64 ((IntKind.wrap .i64 (x + (1 : Int))) * size)) else ((text.length : Nat) : Int)).toNat).drop (IntKind.wrap .i64 (x * size)).toNat))) h ?_
          kernel_rfl
        · refine TS.cond (decide (x < (((List.replicate (IntKind.wrap .i64 ((IntKind.wrap .i64 (((text.length : Nat) : Int).tdiv size)) + (1 : Int))).toNat ([] : List UInt8)).length : Nat) : Int))) ?_ (fun hcz => by rw [c9] at hcz; cases hcz) (fun hcz => ?_)
          · kernel_rfl
          refine TS.exit ?_
          refine XS.passE ?_
          refine XS.passE ?_
          refine XS.out ?_
          refine XS.then ?_
          refine TS.seq ?_
          have hq : (True) ∧ ((True) ∧ ((True) ∧ (True))) := ⟨trivial, ⟨trivial, ⟨trivial, trivial⟩⟩⟩
          refine TS.reg [] ?_ ?_
          · apply prop_of ?_ hq
            kernel_rfl
          refine XS.then ?_
          refine TS.ret ?_
          obtain rfl : ((0 : Int), m0) = r := Option.some.inj h
          exact XS.fin [0] ((True) ∧ ((True) ∧ (True))) (by kernel_rfl) ⟨trivial, ⟨trivial, trivial⟩⟩

/-! plugtree/plugref.Fate -/
def F87 (n : Nat) (f : Int) : Option Bool := ((F15 n f (1 : Int) (5 : Int)).bind fun y_2 => (some y_2))
theorem F87_ok (n : Nat) (f : Int) (r : Bool) (h : F87 n f = some r) : PureC Try.prog 87 [(.int .i64 f)] (.bool r) [] := by
  refine PureC.mkS Try.func87 rfl rfl ?_
  intro w0 fz0 hfz
  replace h : ((F15 n f (1 : Int) (5 : Int)).bind fun y_2 => (some y_2)) = some r := h
  refine TS.seq ?_
  have hq : (True) ∧ (True) := ⟨trivial, trivial⟩
  refine TS.reg [] ?_ ?_
  · apply prop_of ?_ hq
    kernel_rfl
  refine XS.then ?_
  refine TS.seq ?_
  obtain ⟨y_2, hx1, h⟩ := bind_some' h
  have hq : (True) ∧ ((PureC Try.prog 15 [(.int .i64 f), (.int .i64 (1 : Int)), (.int .i64 (5 : Int))] (.bool y_2) []) ∧ ((True) ∧ (True))) := ⟨trivial, ⟨F15_ok n f (1 : Int) (5 : Int) y_2 hx1, ⟨trivial, trivial⟩⟩⟩
  refine TS.reg [.none, (.call (.bool y_2) [])] ?_ ?_
  · apply prop_of ?_ hq
    kernel_rfl
  refine XS.then ?_
  refine TS.ret ?_
  obtain rfl : y_2 = r := Option.some.inj h
  exact XS.fin [] ((True) ∧ (True)) (by kernel_rfl) ⟨trivial, trivial⟩

/-! plugtree/plugref.Carried -/
def F32_j82 (n : Nat) (text : List UInt8) (size : Int) : (Int × Int × Int × Int) → Option (Int × (List UInt8) × Int × Int × Int)
  | (told, got, m1, m1_2) => (bif subB text.length none (some (if (IntKind.wrap .i64 (got * size)) < ((text.length : Nat) : Int) then (IntKind.wrap .i64 (got * size)) else ((text.length : Nat) : Int))) then (some (m1, (text.take (if (IntKind.wrap .i64 (got * size)) < ((text.length : Nat) : Int) then (IntKind.wrap .i64 (got * size)) else ((text.length : Nat) : Int)).toNat), (if (IntKind.wrap .i64 (told * size)) < ((text.length : Nat) : Int) then (IntKind.wrap .i64 (told * size)) else ((text.length : Nat) : Int)), m1_2, (0 : Int))) else none)
def F32_j91 (n : Nat) (k32_89 : (Int × Int × Int × Int) → Option (Int × (List UInt8) × Int × Int × Int)) (text : List UInt8) (size : Int) (x_2 : Int) : (Int × Int × Int × Int) → Option (Int × (List UInt8) × Int × Int × Int)
  | (told_3, got_3, row_2, vend) => (bif (vend != (10 : Int)) then (F32_j82 n text size (told_3, got_3, vend, (IntKind.wrap .i64 (x_2 + (1 : Int))))) else (k32_89 (told_3, got_3, row_2, (IntKind.wrap .i64 (x_2 + (1 : Int))))))
def F32_j92 (n : Nat) (k32_89 : (Int × Int × Int × Int) → Option (Int × (List UInt8) × Int × Int × Int)) (text : List UInt8) (size : Int) (fates : List Int) (told_2 : Int) (got_2 : Int) (row : Int) (x_2 : Int) : Bool → Option (Int × (List UInt8) × Int × Int × Int)
  | x_3 => (bif x_3 then (bif ((fates.getD x_2.toNat (0 : Int)) == (3 : Int)) then (bif ((IntKind.wrap .i64 (row + (1 : Int))) == (3 : Int)) then (F32_j91 n k32_89 text size x_2 (told_2, (IntKind.wrap .i64 (told_2 + (1 : Int))), (IntKind.wrap .i64 (row + (1 : Int))), (9 : Int))) else (F32_j91 n k32_89 text size x_2 (told_2, (IntKind.wrap .i64 (told_2 + (1 : Int))), (IntKind.wrap .i64 (row + (1 : Int))), (10 : Int)))) else (bif ((IntKind.wrap .i64 (row + (1 : Int))) == (3 : Int)) then (F32_j91 n k32_89 text size x_2 (told_2, got_2, (IntKind.wrap .i64 (row + (1 : Int))), (9 : Int))) else (F32_j91 n k32_89 text size x_2 (told_2, got_2, (IntKind.wrap .i64 (row + (1 : Int))), (10 : Int))))) else (bif ((fates.getD x_2.toNat (0 : Int)) == (5 : Int)) then (F32_j91 n k32_89 text size x_2 (told_2, got_2, row, (8 : Int))) else (F32_j91 n k32_89 text size x_2 (told_2, got_2, row, (10 : Int)))))
def F32_l89 (n : Nat) (text : List UInt8) (size : Int) (fates : List Int) (y_6 : Int × (List (List UInt8))) (k32_89 : (Int × Int × Int × Int) → Option (Int × (List UInt8) × Int × Int × Int)) : (Int × Int × Int × Int) → Option (Int × (List UInt8) × Int × Int × Int)
  | (told_2, got_2, row, x_2) => (bif (decide (x_2 < ((fates.length : Nat) : Int))) then (bif inb x_2 fates.length then (bif ((fates.getD x_2.toNat (0 : Int)) == (1 : Int)) then (bif ((IntKind.wrap .i64 (told_2 + (1 : Int))) == ((y_6.2.length : Nat) : Int)) then (F32_j91 n k32_89 text size x_2 ((IntKind.wrap .i64 (told_2 + (1 : Int))), (IntKind.wrap .i64 (told_2 + (1 : Int))), (0 : Int), (0 : Int))) else (F32_j91 n k32_89 text size x_2 ((IntKind.wrap .i64 (told_2 + (1 : Int))), (IntKind.wrap .i64 (told_2 + (1 : Int))), (0 : Int), (10 : Int)))) else (bif ((fates.getD x_2.toNat (0 : Int)) == (2 : Int)) then (F32_j92 n k32_89 text size fates told_2 got_2 row x_2 ((fates.getD x_2.toNat (0 : Int)) == (2 : Int))) else (F32_j92 n k32_89 text size fates told_2 got_2 row x_2 ((fates.getD x_2.toNat (0 : Int)) == (3 : Int))))) else none) else (F32_j82 n text size (told_2, got_2, (10 : Int), ((fates.length : Nat) : Int))))
def F32_l71 (n : Nat) (text : List UInt8) (size : Int) (fates : List Int) (y_6 : Int × (List (List UInt8))) (k32_71 : Int → Option (Int × (List UInt8) × Int × Int × Int)) : Int → Option (Int × (List UInt8) × Int × Int × Int)
  | x => (bif (decide (x < ((fates.length : Nat) : Int))) then (bif inb x fates.length then ((F87 n (fates.getD x.toNat (0 : Int))).bind fun y_7 => (bif (!y_7) then (some ((0 : Int), ([] : List UInt8), (0 : Int), (0 : Int), (1 : Int))) else (k32_71 (IntKind.wrap .i64 (x + (1 : Int)))))) else none) else (loopF (F32_l89 n text size fates y_6) n ((0 : Int), (0 : Int), (0 : Int), (0 : Int))))
def F32 (n : Nat) (text : List UInt8) (size : Int) (fates : List Int) : Option (Int × (List UInt8) × Int × Int × Int) := ((F86 n text size).bind fun y_6 => (bif (y_6.1 != (0 : Int)) then (some ((0 : Int), ([] : List UInt8), (0 : Int), (0 : Int), y_6.1)) else (bif (decide (((y_6.2.length : Nat) : Int) > (200 : Int))) then (some ((0 : Int), ([] : List UInt8), (0 : Int), (0 : Int), (2 : Int))) else (bif (decide (((fates.length : Nat) : Int) > (1000 : Int))) then (some ((0 : Int), ([] : List UInt8), (0 : Int), (0 : Int), (2 : Int))) else (loopF (F32_l71 n text size fates y_6) n (0 : Int))))))
theorem F32_ok (n : Nat) (text : List UInt8) (size : Int) (fates : List Int) (r : Int × (List UInt8) × Int × Int × Int) (h : F32 n text size fates = some r) : PureC Try.prog 32 [(.str text), (.int .i64 size), (.sl (.int .i64) fates)] (.tup (.cons (.st (.cons (.int .i64 r.1) (.cons (.str r.2.1) (.cons (.int .i64 r.2.2.1) (.int .i64 r.2.2.2.1))))) (.cons (.int .i64 r.2.2.2.2) .nil))) [] := by
  refine PureC.mkS Try.func32 rfl rfl ?_
  intro w0 fz0 hfz
  replace h : ((F86 n text size).bind fun y_6 => (bif (y_6.1 != (0 : Int)) then (some ((0 : Int), ([] : List UInt8), (0 : Int), (0 : Int), y_6.1)) else (bif (decide (((y_6.2.length : Nat) : Int) > (200 : Int))) then (some ((0 : Int), ([] : List UInt8), (0 : Int), (0 : Int), (2 : Int))) else (bif (decide (((fates.length : Nat) : Int) > (1000 : Int))) then (some ((0 : Int), ([] : List UInt8), (0 : Int), (0 : Int), (2 : Int))) else (loopF (F32_l71 n text size fates y_6) n (0 : Int)))))) = some r := h
  refine TS.seq ?_
  have hq : (True) ∧ ((True) ∧ (True)) := ⟨trivial, ⟨trivial, trivial⟩⟩
  refine TS.reg [] ?_ ?_
  · apply prop_of ?_ hq
    kernel_rfl
  refine XS.then ?_
  refine TS.seq ?_
  obtain ⟨y_6, hx1, h⟩ := bind_some' h
  have hq : (True) ∧ ((True) ∧ ((PureC Try.prog 86 [(.str text), (.int .i64 size)] (.tup (.cons (.row 0) (.cons (.int .i64 y_6.1) .nil))) [(.row 9 .str y_6.2)]) ∧ ((True) ∧ ((True) ∧ ((True) ∧ ((True) ∧ ((True) ∧ (True)))))))) := ⟨trivial, ⟨trivial, ⟨F86_ok n text size y_6 hx1, ⟨trivial, ⟨trivial, ⟨trivial, ⟨trivial, ⟨trivial, trivial⟩⟩⟩⟩⟩⟩⟩⟩
  refine TS.reg [.none, .none, (.call (.tup (.cons (.row 0) (.cons (.int .i64 y_6.1) .nil))) [(.row 9 .str y_6.2)])] ?_ ?_
  · apply prop_of ?_ hq
    kernel_rfl
  refine XS.then ?_
  refine TS.seq ?_
  refine TS.seq ?_
  have hq : (True) ∧ ((True) ∧ (True)) := ⟨trivial, ⟨trivial, trivial⟩⟩
  refine TS.reg [] ?_ ?_
  · apply prop_of ?_ hq
    kernel_rfl
  refine XS.then ?_
  rcases bif_some h with ⟨c2, h⟩ | ⟨c3, h⟩
  · refine TS.cond (y_6.1 != (0 : Int)) ?_ (fun hcz => ?_) (fun hcz => by rw [c2] at hcz; cases hcz)
    · kernel_rfl
    refine TS.seq ?_
    have hq : (True) ∧ ((True) ∧ ((True) ∧ ((True) ∧ (True)))) := ⟨trivial, ⟨trivial, ⟨trivial, ⟨trivial, trivial⟩⟩⟩⟩
    refine TS.reg [] ?_ ?_
    · apply prop_of ?_ hq
      kernel_rfl
    refine XS.then ?_
    refine TS.ret ?_
    refine XS.passR ?_
    obtain rfl : ((0 : Int), ([] : List UInt8), (0 : Int), (0 : Int), y_6.1) = r := Option.some.inj h
    exact XS.fin [] ((True) ∧ ((True) ∧ (True))) (by kernel_rfl) ⟨trivial, ⟨trivial, trivial⟩⟩
  · refine TS.cond (y_6.1 != (0 : Int)) ?_ (fun hcz => by rw [c3] at hcz; cases hcz) (fun hcz => ?_)
    · kernel_rfl
    refine TS.skip ?_
    refine XS.then ?_
    refine TS.seq ?_
    refine TS.seq ?_
    rcases bif_some h with ⟨c4, h⟩ | ⟨c5, h⟩
    · have hq : (True) ∧ ((True) ∧ ((True) ∧ (((True) ∧ (decide (((y_6.2.length : Nat) : Int) > (200 : Int))) = true) ∧ ((True) ∧ (True))))) := ⟨trivial, ⟨trivial, ⟨trivial, ⟨⟨trivial, c4⟩, ⟨trivial, trivial⟩⟩⟩⟩⟩
      refine TS.reg [.none, .none, .none, .dec true] ?_ ?_
      · apply prop_of ?_ hq
        kernel_rfl
      refine XS.then ?_
      refine TS.yes ?_ ?_
      · kernel_rfl
      refine TS.seq ?_
      have hq : (True) ∧ ((True) ∧ ((True) ∧ (True))) := ⟨trivial, ⟨trivial, ⟨trivial, trivial⟩⟩⟩
      refine TS.reg [] ?_ ?_
      · apply prop_of ?_ hq
        kernel_rfl
      refine XS.then ?_
      refine TS.ret ?_
      refine XS.passR ?_
      obtain rfl : ((0 : Int), ([] : List UInt8), (0 : Int), (0 : Int), (2 : Int)) = r := Option.some.inj h
      exact XS.fin [] ((True) ∧ ((True) ∧ (True))) (by kernel_rfl) ⟨trivial, ⟨trivial, trivial⟩⟩
    · have hq : (True) ∧ ((True) ∧ ((True) ∧ (((True) ∧ (decide (((y_6.2.length : Nat) : Int) > (200 : Int))) = false) ∧ ((True) ∧ ((True) ∧ ((True) ∧ ((True) ∧ (True)))))))) := ⟨trivial, ⟨trivial, ⟨trivial, ⟨⟨trivial, c5⟩, ⟨trivial, ⟨trivial, ⟨trivial, ⟨trivial, trivial⟩⟩⟩⟩⟩⟩⟩⟩
      refine TS.reg [.none, .none, .none, .dec false] ?_ ?_
      · apply prop_of ?_ hq
        kernel_rfl
      refine XS.then ?_
      rcases bif_some h with ⟨c6, h⟩ | ⟨c7, h⟩
      · refine TS.cond (decide (((fates.length : Nat) : Int) > (1000 : Int))) ?_ (fun hcz => ?_) (fun hcz => by rw [c6] at hcz; cases hcz)
        · kernel_rfl
        refine TS.seq ?_
        have hq : (True) ∧ ((True) ∧ ((True) ∧ (True))) := ⟨trivial, ⟨trivial, ⟨trivial, trivial⟩⟩⟩
        refine TS.reg [] ?_ ?_
        · apply prop_of ?_ hq
          kernel_rfl
        refine XS.then ?_
        refine TS.ret ?_
        refine XS.passR ?_
        obtain rfl : ((0 : Int), ([] : List UInt8), (0 : Int), (0 : Int), (2 : Int)) = r := Option.some.inj h
        exact XS.fin [] ((True) ∧ ((True) ∧ (True))) (by kernel_rfl) ⟨trivial, ⟨trivial, trivial⟩⟩
      · refine TS.cond (decide (((fates.length : Nat) : Int) > (1000 : Int))) ?_ (fun hcz => by rw [c7] at hcz; cases hcz) (fun hcz => ?_)
        · kernel_rfl
        refine TS.skip ?_
        refine XS.then ?_
        refine TS.seq ?_
        refine TS.seq ?_
        have hq : (True) ∧ ((True) ∧ ((True) ∧ (True))) := ⟨trivial, ⟨trivial, ⟨trivial, trivial⟩⟩⟩
        refine TS.reg [] ?_ ?_
        · apply prop_of ?_ hq
          kernel_rfl
        refine XS.then ?_
        refine TS.block ?_
        refine TS.reLoop [0, 1] (mkMask 108 [0, 1, 2, 6, 8, 38, 39, 40]) (D := Int) (fun d => match d with | x => (mkTs 108 [(0, (.str text)), (1, (.int .i64 size)), (2, (.sl (.int .i64) fates)), (6, (.ptr 0 [])), (8, (.row 1)), (38, (.sl (.int .i64) fates)), (39, (.int .i64 ((fates.length : Nat) : Int))), (40, (.int .i64 x))], [(.box 58 (.st (.cons (.int .i64 (0 : Int)) (.cons (.str ([] : List UInt8)) (.cons (.int .i64 (0 : Int)) (.int .i64 (0 : Int))))))), (.row 9 .str y_6.2)])) (fun n' d => loopF (F32_l71 n text size fates y_6) n' d = some r) n (0 : Int) h ?_ (fun d => loopF_zero _ d r) ?_
        · kernel_rfl
        · rintro n71 x h
          replace h : (bif (decide (x < ((fates.length : Nat) : Int))) then (bif inb x fates.length then ((F87 n (fates.getD x.toNat (0 : Int))).bind fun y_7 => (bif (!y_7) then (some ((0 : Int), ([] : List UInt8), (0 : Int), (0 : Int), (1 : Int))) else ((loopF (F32_l71 n text size fates y_6) n71) (IntKind.wrap .i64 (x + (1 : Int)))))) else none) else (loopF (F32_l89 n text size fates y_6) n ((0 : Int), (0 : Int), (0 : Int), (0 : Int)))) = some r := h
          refine TS.seq ?_
          have hq : (True) ∧ (True) := ⟨trivial, trivial⟩
          refine TS.reg [] ?_ ?_
          · apply prop_of ?_ hq
            kernel_rfl
          refine XS.then ?_
          refine TS.seq ?_
          rcases bif_some h with ⟨c8, h⟩ | ⟨c9, h⟩
          · refine TS.cond (decide (x < ((fates.length : Nat) : Int))) ?_ (fun hcz => ?_) (fun hcz => by rw [c8] at hcz; cases hcz)
            · kernel_rfl
            refine TS.skip ?_
            refine XS.then ?_
            refine TS.seq ?_
            refine TS.block ?_
            refine TS.seq ?_
            obtain ⟨t10, h⟩ := test_some h
            have hq : (inR x fates.length) ∧ ((True) ∧ ((True) ∧ (True))) := ⟨inb_ok t10, ⟨trivial, ⟨trivial, trivial⟩⟩⟩
            refine TS.reg [] ?_ ?_
            · apply prop_of ?_ hq
              kernel_rfl
            refine XS.then ?_
            refine TS.seq ?_
            obtain ⟨y_7, hx11, h⟩ := bind_some' h
            have hq : (True) ∧ ((PureC Try.prog 87 [(.int .i64 (fates.getD x.toNat (0 : Int)))] (.bool y_7) []) ∧ ((True) ∧ (True))) := ⟨trivial, ⟨F87_ok n (fates.getD x.toNat (0 : Int)) y_7 hx11, ⟨trivial, trivial⟩⟩⟩
            refine TS.reg [.none, (.call (.bool y_7) [])] ?_ ?_
            · apply prop_of ?_ hq
              kernel_rfl
            refine XS.then ?_
            rcases bif_some h with ⟨c12, h⟩ | ⟨c13, h⟩
            · refine TS.cond (!y_7) ?_ (fun hcz => ?_) (fun hcz => by rw [c12] at hcz; cases hcz)
              · kernel_rfl
              refine TS.seq ?_
              have hq : (True) ∧ ((True) ∧ ((True) ∧ (True))) := ⟨trivial, ⟨trivial, ⟨trivial, trivial⟩⟩⟩
              refine TS.reg [] ?_ ?_
              · apply prop_of ?_ hq
                kernel_rfl
              refine XS.then ?_
              refine TS.ret ?_
              refine XS.blockRet ?_
              refine XS.passR ?_
              refine XS.passR ?_
              refine XS.blockRet ?_
              refine XS.passR ?_
              obtain rfl : ((0 : Int), ([] : List UInt8), (0 : Int), (0 : Int), (1 : Int)) = r := Option.some.inj h
              exact XS.fin [] ((True) ∧ ((True) ∧ (True))) (by kernel_rfl) ⟨trivial, ⟨trivial, trivial⟩⟩
            · refine TS.cond (!y_7) ?_ (fun hcz => by rw [c13] at hcz; cases hcz) (fun hcz => ?_)
              · kernel_rfl
              refine TS.skip ?_
              refine XS.blockEnd ?_
              refine XS.then ?_
              have hq : (True) ∧ ((True) ∧ (True)) := ⟨trivial, ⟨trivial, trivial⟩⟩
              refine TS.reg [] ?_ ?_
              · apply prop_of ?_ hq
                kernel_rfl
              refine XS.reAny [0, 1] (mkMask 108 [0, 1, 2, 6, 8, 38, 39, 40]) (IntKind.wrap .i64 (x + (1 : Int))) h ?_
              kernel_rfl
          · refine TS.cond (decide (x < ((fates.length : Nat) : Int))) ?_ (fun hcz => by rw [c9] at hcz; cases hcz) (fun hcz => ?_)
            · kernel_rfl
            refine TS.exit ?_
            refine XS.passE ?_
            refine XS.passE ?_
            refine XS.out ?_
            refine XS.then ?_
            refine TS.seq ?_
            have hq : (True) ∧ ((True) ∧ ((True) ∧ (True))) := ⟨trivial, ⟨trivial, ⟨trivial, trivial⟩⟩⟩
            refine TS.reg [] ?_ ?_
            · apply prop_of ?_ hq
              kernel_rfl
            refine XS.then ?_
            refine TS.seq ?_
            have hq : (True) ∧ ((True) ∧ (((True) ∧ ((True) ∧ (True))) ∧ ((True) ∧ ((True) ∧ (True))))) := ⟨trivial, ⟨trivial, ⟨⟨trivial, ⟨trivial, trivial⟩⟩, ⟨trivial, ⟨trivial, trivial⟩⟩⟩⟩⟩
            refine TS.reg [] ?_ ?_
            · apply prop_of ?_ hq
              kernel_rfl
            refine XS.then ?_
            refine TS.seq ?_
            refine TS.seq ?_
            have hq : (True) ∧ ((True) ∧ ((True) ∧ (True))) := ⟨trivial, ⟨trivial, ⟨trivial, trivial⟩⟩⟩
            refine TS.reg [] ?_ ?_
            · apply prop_of ?_ hq
              kernel_rfl
            refine XS.then ?_
            refine TS.cut (D := Int × Int × Int × Int) (fun d => match d with | (told, got, m1, m1_2) => (mkTs 108 [(0, (.str text)), (1, (.int .i64 size)), (6, (.ptr 0 [])), (12, (.int .i64 told)), (13, (.int .i64 got)), (15, (.ptr 1 []))], [(.box 58 (.st (.cons (.int .i64 (0 : Int)) (.cons (.str ([] : List UInt8)) (.cons (.int .i64 (0 : Int)) (.int .i64 (0 : Int))))))), (.box 58 (.st (.cons (.int .i64 m1) (.cons (.str ([] : List UInt8)) (.cons (.int .i64 (0 : Int)) (.int .i64 m1_2))))))])) (fun d => F32_j82 n text size d = some r) ?_ ?_
            · rintro ⟨told, got, m1, m1_2⟩ h
              replace h : (bif subB text.length none (some (if (IntKind.wrap .i64 (got * size)) < ((text.length : Nat) : Int) then (IntKind.wrap .i64 (got * size)) else ((text.length : Nat) : Int))) then (some (m1, (text.take (if (IntKind.wrap .i64 (got * size)) < ((text.length : Nat) : Int) then (IntKind.wrap .i64 (got * size)) else ((text.length : Nat) : Int)).toNat), (if (IntKind.wrap .i64 (told * size)) < ((text.length : Nat) : Int) then (IntKind.wrap .i64 (told * size)) else ((text.length : Nat) : Int)), m1_2, (0 : Int))) else none) = some r := h
              refine XS.then ?_
              refine TS.seq ?_
              obtain ⟨t14, h⟩ := test_some h
              have hq : (True) ∧ ((True) ∧ ((True) ∧ ((True) ∧ ((True) ∧ ((True) ∧ ((True) ∧ ((subC text.length none (some (if (IntKind.wrap .i64 (got * size)) < ((text.length : Nat) : Int) then (IntKind.wrap .i64 (got * size)) else ((text.length : Nat) : Int)))) ∧ ((True) ∧ ((True) ∧ ((True) ∧ ((True) ∧ ((True) ∧ ((True) ∧ ((True) ∧ ((True) ∧ ((True) ∧ ((True) ∧ (True)))))))))))))))))) := ⟨trivial, ⟨trivial, ⟨trivial, ⟨trivial, ⟨trivial, ⟨trivial, ⟨trivial, ⟨subB_ok t14, ⟨trivial, ⟨trivial, ⟨trivial, ⟨trivial, ⟨trivial, ⟨trivial, ⟨trivial, ⟨trivial, ⟨trivial, ⟨trivial, trivial⟩⟩⟩⟩⟩⟩⟩⟩⟩⟩⟩⟩⟩⟩⟩⟩⟩⟩
              refine TS.reg [] ?_ ?_
              · apply prop_of ?_ hq
                kernel_rfl
              refine XS.then ?_
              refine TS.seq ?_
              have hq : (True) ∧ ((True) ∧ ((True) ∧ (True))) := ⟨trivial, ⟨trivial, ⟨trivial, trivial⟩⟩⟩
              refine TS.reg [] ?_ ?_
              · apply prop_of ?_ hq
                kernel_rfl
              refine XS.then ?_
              refine TS.ret ?_
              obtain rfl : (m1, (text.take (if (IntKind.wrap .i64 (got * size)) < ((text.length : Nat) : Int) then (IntKind.wrap .i64 (got * size)) else ((text.length : Nat) : Int)).toNat), (if (IntKind.wrap .i64 (told * size)) < ((text.length : Nat) : Int) then (IntKind.wrap .i64 (told * size)) else ((text.length : Nat) : Int)), m1_2, (0 : Int)) = r := Option.some.inj h
              exact XS.fin [] ((True) ∧ ((True) ∧ (True))) (by kernel_rfl) ⟨trivial, ⟨trivial, trivial⟩⟩
            · refine TS.block ?_
              refine TS.reLoop [0, 1, 2] (mkMask 108 [0, 1, 6, 8, 12, 13, 14, 15, 52, 53, 54]) (D := Int × Int × Int × Int) (fun d => match d with | (told_2, got_2, row, x_2) => (mkTs 108 [(0, (.str text)), (1, (.int .i64 size)), (6, (.ptr 0 [])), (8, (.row 1)), (12, (.int .i64 told_2)), (13, (.int .i64 got_2)), (14, (.int .i64 row)), (15, (.ptr 2 [])), (52, (.sl (.int .i64) fates)), (53, (.int .i64 ((fates.length : Nat) : Int))), (54, (.int .i64 x_2))], [(.box 58 (.st (.cons (.int .i64 (0 : Int)) (.cons (.str ([] : List UInt8)) (.cons (.int .i64 (0 : Int)) (.int .i64 (0 : Int))))))), (.row 9 .str y_6.2), (.box 58 (.st (.cons (.int .i64 (10 : Int)) (.cons (.str ([] : List UInt8)) (.cons (.int .i64 (0 : Int)) (.int .i64 ((fates.length : Nat) : Int)))))))])) (fun n' d => loopF (F32_l89 n text size fates y_6) n' d = some r) n ((0 : Int), (0 : Int), (0 : Int), (0 : Int)) h ?_ (fun d => loopF_zero _ d r) ?_
              · kernel_rfl
              · rintro n89 ⟨told_2, got_2, row, x_2⟩ h
                replace h : (bif (decide (x_2 < ((fates.length : Nat) : Int))) then (bif inb x_2 fates.length then (bif ((fates.getD x_2.toNat (0 : Int)) == (1 : Int)) then (bif ((IntKind.wrap .i64 (told_2 + (1 : Int))) == ((y_6.2.length : Nat) : Int)) then (F32_j91 n (loopF (F32_l89 n text size fates y_6) n89) text size x_2 ((IntKind.wrap .i64 (told_2 + (1 : Int))), (IntKind.wrap .i64 (told_2 + (1 : Int))), (0 : Int), (0 : Int))) else (F32_j91 n (loopF (F32_l89 n text size fates y_6) n89) text size x_2 ((IntKind.wrap .i64 (told_2 + (1 : Int))), (IntKind.wrap .i64 (told_2 + (1 : Int))), (0 : Int), (10 : Int)))) else (bif ((fates.getD x_2.toNat (0 : Int)) == (2 : Int)) then (F32_j92 n (loopF (F32_l89 n text size fates y_6) n89) text size fates told_2 got_2 row x_2 ((fates.getD x_2.toNat (0 : Int)) == (2 : Int))) else (F32_j92 n (loopF (F32_l89 n text size fates y_6) n89) text size fates told_2 got_2 row x_2 ((fates.getD x_2.toNat (0 : Int)) == (3 : Int))))) else none) else (F32_j82 n text size (told_2, got_2, (10 : Int), ((fates.length : Nat) : Int)))) = some r := h
                refine TS.seq ?_
                have hq : (True) ∧ (True) := ⟨trivial, trivial⟩
                refine TS.reg [] ?_ ?_
                · apply prop_of ?_ hq
                  kernel_rfl
                refine XS.then ?_
                refine TS.seq ?_
                rcases bif_some h with ⟨c15, h⟩ | ⟨c16, h⟩
                · refine TS.cond (decide (x_2 < ((fates.length : Nat) : Int))) ?_ (fun hcz => ?_) (fun hcz => by rw [c15] at hcz; cases hcz)
                  · kernel_rfl
                  refine TS.skip ?_
                  refine XS.then ?_
                  refine TS.seq ?_
                  refine TS.block ?_
                  refine TS.seq ?_
                  obtain ⟨t17, h⟩ := test_some h
                  have hq : (True) ∧ ((inR x_2 fates.length) ∧ ((True) ∧ ((True) ∧ ((True) ∧ (True))))) := ⟨trivial, ⟨inb_ok t17, ⟨trivial, ⟨trivial, ⟨trivial, trivial⟩⟩⟩⟩⟩
                  refine TS.reg [] ?_ ?_
                  · apply prop_of ?_ hq
                    kernel_rfl
                  refine XS.then ?_
                  refine TS.seq ?_
                  have hq : (True) ∧ (True) := ⟨trivial, trivial⟩
                  refine TS.reg [] ?_ ?_
                  · apply prop_of ?_ hq
                    kernel_rfl
                  refine XS.then ?_
                  refine TS.seq ?_
                  refine TS.seq ?_
                  have hq : (True) ∧ (True) := ⟨trivial, trivial⟩
                  refine TS.reg [] ?_ ?_
                  · apply prop_of ?_ hq
                    kernel_rfl
                  refine XS.then ?_
                  refine TS.cut (D := Int × Int × Int × Int) (fun d => match d with | (told_3, got_3, row_2, vend) => (mkTs 108 [(0, (.str text)), (1, (.int .i64 size)), (6, (.ptr 0 [])), (8, (.row 1)), (12, (.int .i64 told_3)), (13, (.int .i64 got_3)), (14, (.int .i64 row_2)), (15, (.ptr 2 [])), (16, (.int .i64 x_2)), (18, (.int .i64 vend)), (52, (.sl (.int .i64) fates)), (53, (.int .i64 ((fates.length : Nat) : Int))), (54, (.int .i64 x_2))], [(.box 58 (.st (.cons (.int .i64 (0 : Int)) (.cons (.str ([] : List UInt8)) (.cons (.int .i64 (0 : Int)) (.int .i64 (0 : Int))))))), (.row 9 .str y_6.2), (.box 58 (.st (.cons (.int .i64 (10 : Int)) (.cons (.str ([] : List UInt8)) (.cons (.int .i64 (0 : Int)) (.int .i64 ((fates.length : Nat) : Int)))))))])) (fun d => F32_j91 n (loopF (F32_l89 n text size fates y_6) n89) text size x_2 d = some r) ?_ ?_
                  · rintro ⟨told_3, got_3, row_2, vend⟩ h
                    replace h : (bif (vend != (10 : Int)) then (F32_j82 n text size (told_3, got_3, vend, (IntKind.wrap .i64 (x_2 + (1 : Int))))) else ((loopF (F32_l89 n text size fates y_6) n89) (told_3, got_3, row_2, (IntKind.wrap .i64 (x_2 + (1 : Int)))))) = some r := h
                    refine XS.then ?_
                    refine TS.seq ?_
                    have hq : (True) ∧ ((True) ∧ (True)) := ⟨trivial, ⟨trivial, trivial⟩⟩
                    refine TS.reg [] ?_ ?_
                    · apply prop_of ?_ hq
                      kernel_rfl
                    refine XS.then ?_
                    rcases bif_some h with ⟨c18, h⟩ | ⟨c19, h⟩
                    · refine TS.cond (vend != (10 : Int)) ?_ (fun hcz => ?_) (fun hcz => by rw [c18] at hcz; cases hcz)
                      · kernel_rfl
                      refine TS.seq ?_
                      have hq : (True) ∧ ((True) ∧ ((True) ∧ ((True) ∧ ((True) ∧ ((True) ∧ ((True) ∧ (True))))))) := ⟨trivial, ⟨trivial, ⟨trivial, ⟨trivial, ⟨trivial, ⟨trivial, ⟨trivial, trivial⟩⟩⟩⟩⟩⟩⟩
                      refine TS.reg [] ?_ ?_
                      · apply prop_of ?_ hq
                        kernel_rfl
                      refine XS.then ?_
                      refine TS.exit ?_
                      refine XS.through (by decide) ?_
                      refine XS.passE ?_
                      refine XS.passE ?_
                      refine XS.out ?_
                      refine XS.reAny [0, 2] (mkMask 108 [0, 1, 6, 12, 13, 15]) (told_3, got_3, vend, (IntKind.wrap .i64 (x_2 + (1 : Int)))) h ?_
                      kernel_rfl
                    · refine TS.cond (vend != (10 : Int)) ?_ (fun hcz => by rw [c19] at hcz; cases hcz) (fun hcz => ?_)
                      · kernel_rfl
                      refine TS.skip ?_
                      refine XS.blockEnd ?_
                      refine XS.then ?_
                      have hq : (True) ∧ ((True) ∧ (True)) := ⟨trivial, ⟨trivial, trivial⟩⟩
                      refine TS.reg [] ?_ ?_
                      · apply prop_of ?_ hq
                        kernel_rfl
                      refine XS.reAny [0, 1, 2] (mkMask 108 [0, 1, 6, 8, 12, 13, 14, 15, 52, 53, 54]) (told_3, got_3, row_2, (IntKind.wrap .i64 (x_2 + (1 : Int)))) h ?_
                      kernel_rfl
                  · refine TS.block ?_
                    refine TS.seq ?_
                    have hq : (True) ∧ ((True) ∧ (True)) := ⟨trivial, ⟨trivial, trivial⟩⟩
                    refine TS.reg [] ?_ ?_
                    · apply prop_of ?_ hq
                      kernel_rfl
                    refine XS.then ?_
                    rcases bif_some h with ⟨c20, h⟩ | ⟨c21, h⟩
                    · refine TS.cond ((fates.getD x_2.toNat (0 : Int)) == (1 : Int)) ?_ (fun hcz => ?_) (fun hcz => by rw [c20] at hcz; cases hcz)
                      · kernel_rfl
                      refine TS.seq ?_
                      have hq : (True) ∧ ((True) ∧ ((True) ∧ ((True) ∧ ((True) ∧ ((True) ∧ ((True) ∧ (True))))))) := ⟨trivial, ⟨trivial, ⟨trivial, ⟨trivial, ⟨trivial, ⟨trivial, ⟨trivial, trivial⟩⟩⟩⟩⟩⟩⟩
                      refine TS.reg [] ?_ ?_
                      · apply prop_of ?_ hq
                        kernel_rfl
                      refine XS.then ?_
                      refine TS.seq ?_
                      have hq : (True) ∧ ((True) ∧ ((True) ∧ ((True) ∧ (True)))) := ⟨trivial, ⟨trivial, ⟨trivial, ⟨trivial, trivial⟩⟩⟩⟩
                      refine TS.reg [] ?_ ?_
                      · apply prop_of ?_ hq
                        kernel_rfl
                      refine XS.then ?_
                      rcases bif_some h with ⟨c22, h⟩ | ⟨c23, h⟩
                      · refine TS.cond ((IntKind.wrap .i64 (told_2 + (1 : Int))) == ((y_6.2.length : Nat) : Int)) ?_ (fun hcz => ?_) (fun hcz => by rw [c22] at hcz; cases hcz)
                        · kernel_rfl
                        have hq : (True) ∧ (True) := ⟨trivial, trivial⟩
                        refine TS.reg [] ?_ ?_
                        · apply prop_of ?_ hq
                          kernel_rfl
                        refine XS.blockEnd ?_
                        refine XS.reAny [0, 1, 2] (mkMask 108 [0, 1, 6, 8, 12, 13, 14, 15, 16, 18, 52, 53, 54]) ((IntKind.wrap .i64 (told_2 + (1 : Int))), (IntKind.wrap .i64 (told_2 + (1 : Int))), (0 : Int), (0 : Int)) h ?_
                        kernel_rfl
                      · refine TS.cond ((IntKind.wrap .i64 (told_2 + (1 : Int))) == ((y_6.2.length : Nat) : Int)) ?_ (fun hcz => by rw [c23] at hcz; cases hcz) (fun hcz => ?_)
                        · kernel_rfl
                        refine TS.skip ?_
                        refine XS.blockEnd ?_
                        refine XS.reAny [0, 1, 2] (mkMask 108 [0, 1, 6, 8, 12, 13, 14, 15, 16, 18, 52, 53, 54]) ((IntKind.wrap .i64 (told_2 + (1 : Int))), (IntKind.wrap .i64 (told_2 + (1 : Int))), (0 : Int), (10 : Int)) h ?_
                        kernel_rfl
                    · refine TS.cond ((fates.getD x_2.toNat (0 : Int)) == (1 : Int)) ?_ (fun hcz => by rw [c21] at hcz; cases hcz) (fun hcz => ?_)
                      · kernel_rfl
                      refine TS.seq ?_
                      refine TS.seq ?_
                      have hq : (True) ∧ ((True) ∧ (True)) := ⟨trivial, ⟨trivial, trivial⟩⟩
                      refine TS.reg [] ?_ ?_
                      · apply prop_of ?_ hq
                        kernel_rfl
                      refine XS.then ?_
                      refine TS.cut (D := Bool) (fun d => match d with | x_3 => (mkTs 108 [(0, (.str text)), (1, (.int .i64 size)), (6, (.ptr 0 [])), (8, (.row 1)), (12, (.int .i64 told_2)), (13, (.int .i64 got_2)), (14, (.int .i64 row)), (15, (.ptr 2 [])), (16, (.int .i64 x_2)), (17, (.int .i64 (fates.getD x_2.toNat (0 : Int)))), (18, (.int .i64 (10 : Int))), (52, (.sl (.int .i64) fates)), (53, (.int .i64 ((fates.length : Nat) : Int))), (54, (.int .i64 x_2)), (59, (.int .i64 (fates.getD x_2.toNat (0 : Int)))), (70, (.bool x_3))], [(.box 58 (.st (.cons (.int .i64 (0 : Int)) (.cons (.str ([] : List UInt8)) (.cons (.int .i64 (0 : Int)) (.int .i64 (0 : Int))))))), (.row 9 .str y_6.2), (.box 58 (.st (.cons (.int .i64 (10 : Int)) (.cons (.str ([] : List UInt8)) (.cons (.int .i64 (0 : Int)) (.int .i64 ((fates.length : Nat) : Int)))))))])) (fun d => F32_j92 n (loopF (F32_l89 n text size fates y_6) n89) text size fates told_2 got_2 row x_2 d = some r) ?_ ?_
                      · rintro x_3 h
                        replace h : (bif x_3 then (bif ((fates.getD x_2.toNat (0 : Int)) == (3 : Int)) then (bif ((IntKind.wrap .i64 (row + (1 : Int))) == (3 : Int)) then (F32_j91 n (loopF (F32_l89 n text size fates y_6) n89) text size x_2 (told_2, (IntKind.wrap .i64 (told_2 + (1 : Int))), (IntKind.wrap .i64 (row + (1 : Int))), (9 : Int))) else (F32_j91 n (loopF (F32_l89 n text size fates y_6) n89) text size x_2 (told_2, (IntKind.wrap .i64 (told_2 + (1 : Int))), (IntKind.wrap .i64 (row + (1 : Int))), (10 : Int)))) else (bif ((IntKind.wrap .i64 (row + (1 : Int))) == (3 : Int)) then (F32_j91 n (loopF (F32_l89 n text size fates y_6) n89) text size x_2 (told_2, got_2, (IntKind.wrap .i64 (row + (1 : Int))), (9 : Int))) else (F32_j91 n (loopF (F32_l89 n text size fates y_6) n89) text size x_2 (told_2, got_2, (IntKind.wrap .i64 (row + (1 : Int))), (10 : Int))))) else (bif ((fates.getD x_2.toNat (0 : Int)) == (5 : Int)) then (F32_j91 n (loopF (F32_l89 n text size fates y_6) n89) text size x_2 (told_2, got_2, row, (8 : Int))) else (F32_j91 n (loopF (F32_l89 n text size fates y_6) n89) text size x_2 (told_2, got_2, row, (10 : Int))))) = some r := h
                        refine XS.then ?_
                        rcases bif_some h with ⟨c24, h⟩ | ⟨c25, h⟩
                        · refine TS.cond x_3 ?_ (fun hcz => ?_) (fun hcz => by rw [c24] at hcz; cases hcz)
                          · kernel_rfl
                          refine TS.seq ?_
                          have hq : (True) ∧ ((True) ∧ ((True) ∧ (True))) := ⟨trivial, ⟨trivial, ⟨trivial, trivial⟩⟩⟩
                          refine TS.reg [] ?_ ?_
                          · apply prop_of ?_ hq
                            kernel_rfl
                          refine XS.then ?_
                          refine TS.seq ?_
                          refine TS.seq ?_
                          have hq : (True) ∧ ((True) ∧ (True)) := ⟨trivial, ⟨trivial, trivial⟩⟩
                          refine TS.reg [] ?_ ?_
                          · apply prop_of ?_ hq
                            kernel_rfl
                          refine XS.then ?_
                          rcases bif_some h with ⟨c26, h⟩ | ⟨c27, h⟩
                          · refine TS.cond ((fates.getD x_2.toNat (0 : Int)) == (3 : Int)) ?_ (fun hcz => ?_) (fun hcz => by rw [c26] at hcz; cases hcz)
                            · kernel_rfl
                            have hq : (True) ∧ ((True) ∧ ((True) ∧ (True))) := ⟨trivial, ⟨trivial, ⟨trivial, trivial⟩⟩⟩
                            refine TS.reg [] ?_ ?_
                            · apply prop_of ?_ hq
                              kernel_rfl
                            refine XS.then ?_
                            refine TS.seq ?_
                            have hq : (True) ∧ ((True) ∧ (True)) := ⟨trivial, ⟨trivial, trivial⟩⟩
                            refine TS.reg [] ?_ ?_
                            · apply prop_of ?_ hq
                              kernel_rfl
                            refine XS.then ?_
                            rcases bif_some h with ⟨c28, h⟩ | ⟨c29, h⟩
                            · refine TS.cond ((IntKind.wrap .i64 (row + (1 : Int))) == (3 : Int)) ?_ (fun hcz => ?_) (fun hcz => by rw [c28] at hcz; cases hcz)
                              · kernel_rfl
                              have hq : (True) ∧ (True) := ⟨trivial, trivial⟩
                              refine TS.reg [] ?_ ?_
                              · apply prop_of ?_ hq
                                kernel_rfl
                              refine XS.blockEnd ?_
                              refine XS.reAny [0, 1, 2] (mkMask 108 [0, 1, 6, 8, 12, 13, 14, 15, 16, 18, 52, 53, 54]) (told_2, (IntKind.wrap .i64 (told_2 + (1 : Int))), (IntKind.wrap .i64 (row + (1 : Int))), (9 : Int)) h ?_
                              kernel_rfl
                            · refine TS.cond ((IntKind.wrap .i64 (row + (1 : Int))) == (3 : Int)) ?_ (fun hcz => by rw [c29] at hcz; cases hcz) (fun hcz => ?_)
                              · kernel_rfl
                              refine TS.skip ?_
                              refine XS.blockEnd ?_
                              refine XS.reAny [0, 1, 2] (mkMask 108 [0, 1, 6, 8, 12, 13, 14, 15, 16, 18, 52, 53, 54]) (told_2, (IntKind.wrap .i64 (told_2 + (1 : Int))), (IntKind.wrap .i64 (row + (1 : Int))), (10 : Int)) h ?_
                              kernel_rfl
                          · refine TS.cond ((fates.getD x_2.toNat (0 : Int)) == (3 : Int)) ?_ (fun hcz => by rw [c27] at hcz; cases hcz) (fun hcz => ?_)
                            · kernel_rfl
                            refine TS.skip ?_
                            refine XS.then ?_
                            refine TS.seq ?_
                            have hq : (True) ∧ ((True) ∧ (True)) := ⟨trivial, ⟨trivial, trivial⟩⟩
                            refine TS.reg [] ?_ ?_
                            · apply prop_of ?_ hq
                              kernel_rfl
                            refine XS.then ?_
                            rcases bif_some h with ⟨c30, h⟩ | ⟨c31, h⟩
                            · refine TS.cond ((IntKind.wrap .i64 (row + (1 : Int))) == (3 : Int)) ?_ (fun hcz => ?_) (fun hcz => by rw [c30] at hcz; cases hcz)
                              · kernel_rfl
                              have hq : (True) ∧ (True) := ⟨trivial, trivial⟩
                              refine TS.reg [] ?_ ?_
                              · apply prop_of ?_ hq
                                kernel_rfl
                              refine XS.blockEnd ?_
                              refine XS.reAny [0, 1, 2] (mkMask 108 [0, 1, 6, 8, 12, 13, 14, 15, 16, 18, 52, 53, 54]) (told_2, got_2, (IntKind.wrap .i64 (row + (1 : Int))), (9 : Int)) h ?_
                              kernel_rfl
                            · refine TS.cond ((IntKind.wrap .i64 (row + (1 : Int))) == (3 : Int)) ?_ (fun hcz => by rw [c31] at hcz; cases hcz) (fun hcz => ?_)
                              · kernel_rfl
                              refine TS.skip ?_
                              refine XS.blockEnd ?_
                              refine XS.reAny [0, 1, 2] (mkMask 108 [0, 1, 6, 8, 12, 13, 14, 15, 16, 18, 52, 53, 54]) (told_2, got_2, (IntKind.wrap .i64 (row + (1 : Int))), (10 : Int)) h ?_
                              kernel_rfl
                        · refine TS.cond x_3 ?_ (fun hcz => by rw [c25] at hcz; cases hcz) (fun hcz => ?_)
                          · kernel_rfl
                          refine TS.seq ?_
                          have hq : (True) ∧ ((True) ∧ (True)) := ⟨trivial, ⟨trivial, trivial⟩⟩
                          refine TS.reg [] ?_ ?_
                          · apply prop_of ?_ hq
                            kernel_rfl
                          refine XS.then ?_
                          rcases bif_some h with ⟨c32, h⟩ | ⟨c33, h⟩
                          · refine TS.cond ((fates.getD x_2.toNat (0 : Int)) == (5 : Int)) ?_ (fun hcz => ?_) (fun hcz => by rw [c32] at hcz; cases hcz)
                            · kernel_rfl
                            have hq : (True) ∧ (True) := ⟨trivial, trivial⟩
                            refine TS.reg [] ?_ ?_
                            · apply prop_of ?_ hq
                              kernel_rfl
                            refine XS.blockEnd ?_
                            refine XS.reAny [0, 1, 2] (mkMask 108 [0, 1, 6, 8, 12, 13, 14, 15, 16, 18, 52, 53, 54]) (told_2, got_2, row, (8 : Int)) h ?_
                            kernel_rfl
                          · refine TS.cond ((fates.getD x_2.toNat (0 : Int)) == (5 : Int)) ?_ (fun hcz => by rw [c33] at hcz; cases hcz) (fun hcz => ?_)
                            · kernel_rfl
                            refine TS.skip ?_
                            refine XS.blockEnd ?_
                            refine XS.reAny [0, 1, 2] (mkMask 108 [0, 1, 6, 8, 12, 13, 14, 15, 16, 18, 52, 53, 54]) (told_2, got_2, row, (10 : Int)) h ?_
                            kernel_rfl
                      · rcases bif_some h with ⟨c34, h⟩ | ⟨c35, h⟩
                        · refine TS.cond ((fates.getD x_2.toNat (0 : Int)) == (2 : Int)) ?_ (fun hcz => ?_) (fun hcz => by rw [c34] at hcz; cases hcz)
                          · kernel_rfl
                          refine TS.skip ?_
                          refine XS.reAny [0, 1, 2] (mkMask 108 [0, 1, 6, 8, 12, 13, 14, 15, 16, 17, 18, 52, 53, 54, 59, 70]) ((fates.getD x_2.toNat (0 : Int)) == (2 : Int)) h ?_
                          kernel_rfl
                        · refine TS.cond ((fates.getD x_2.toNat (0 : Int)) == (2 : Int)) ?_ (fun hcz => by rw [c35] at hcz; cases hcz) (fun hcz => ?_)
                          · kernel_rfl
                          have hq : (True) ∧ ((True) ∧ (True)) := ⟨trivial, ⟨trivial, trivial⟩⟩
                          refine TS.reg [] ?_ ?_
                          · apply prop_of ?_ hq
                            kernel_rfl
                          refine XS.reAny [0, 1, 2] (mkMask 108 [0, 1, 6, 8, 12, 13, 14, 15, 16, 17, 18, 52, 53, 54, 59, 70]) ((fates.getD x_2.toNat (0 : Int)) == (3 : Int)) h ?_
                          kernel_rfl
                · refine TS.cond (decide (x_2 < ((fates.length : Nat) : Int))) ?_ (fun hcz => by rw [c16] at hcz; cases hcz) (fun hcz => ?_)
                  · kernel_rfl
                  refine TS.exit ?_
                  refine XS.passE ?_
                  refine XS.passE ?_
                  refine XS.out ?_
                  refine XS.reAny [0, 2] (mkMask 108 [0, 1, 6, 12, 13, 15]) (told_2, got_2, (10 : Int), ((fates.length : Nat) : Int)) h ?_
                  kernel_rfl

/-! plugtree/pluglaw.StrikeCarries -/
def F7 (n : Nat) (text : List UInt8) (size : Int) (fates : List Int) : Option Bool := ((F31 n text size fates).bind fun y_2 => ((F32 n text size fates).bind fun y_3 => (bif (Sh.beq (.st (.pair (.int .i64) (.pair .str (.pair (.int .i64) (.int .i64))))) (y_2.1, (y_2.2.1, (y_2.2.2.1, y_2.2.2.2.1))) (y_3.1, (y_3.2.1, (y_3.2.2.1, y_3.2.2.2.1)))) then (some (y_2.2.2.2.2 == y_3.2.2.2.2)) else (some false))))
theorem F7_ok (n : Nat) (text : List UInt8) (size : Int) (fates : List Int) (r : Bool) (h : F7 n text size fates = some r) : PureC Try.prog 7 [(.str text), (.int .i64 size), (.sl (.int .i64) fates)] (.bool r) [] := by
  refine PureC.mkS Try.func7 rfl rfl ?_
  intro w0 fz0 hfz
  replace h : ((F31 n text size fates).bind fun y_2 => ((F32 n text size fates).bind fun y_3 => (bif (Sh.beq (.st (.pair (.int .i64) (.pair .str (.pair (.int .i64) (.int .i64))))) (y_2.1, (y_2.2.1, (y_2.2.2.1, y_2.2.2.2.1))) (y_3.1, (y_3.2.1, (y_3.2.2.1, y_3.2.2.2.1)))) then (some (y_2.2.2.2.2 == y_3.2.2.2.2)) else (some false)))) = some r := h
  refine TS.seq ?_
  have hq : (True) ∧ (True) := ⟨trivial, trivial⟩
  refine TS.reg [] ?_ ?_
  · apply prop_of ?_ hq
    kernel_rfl
  refine XS.then ?_
  refine TS.seq ?_
  obtain ⟨y_2, hx1, h⟩ := bind_some' h
  have hq : (True) ∧ ((True) ∧ ((True) ∧ ((PureC Try.prog 31 [(.str text), (.int .i64 size), (.sl (.int .i64) fates)] (.tup (.cons (.st (.cons (.int .i64 y_2.1) (.cons (.str y_2.2.1) (.cons (.int .i64 y_2.2.2.1) (.int .i64 y_2.2.2.2.1))))) (.cons (.int .i64 y_2.2.2.2.2) .nil))) []) ∧ ((True) ∧ ((True) ∧ ((True) ∧ ((True) ∧ ((True) ∧ ((True) ∧ (True)))))))))) := ⟨trivial, ⟨trivial, ⟨trivial, ⟨F31_ok n text size fates y_2 hx1, ⟨trivial, ⟨trivial, ⟨trivial, ⟨trivial, ⟨trivial, ⟨trivial, trivial⟩⟩⟩⟩⟩⟩⟩⟩⟩⟩
  refine TS.reg [.none, .none, .none, (.call (.tup (.cons (.st (.cons (.int .i64 y_2.1) (.cons (.str y_2.2.1) (.cons (.int .i64 y_2.2.2.1) (.int .i64 y_2.2.2.2.1))))) (.cons (.int .i64 y_2.2.2.2.2) .nil))) [])] ?_ ?_
  · apply prop_of ?_ hq
    kernel_rfl
  refine XS.then ?_
  refine TS.seq ?_
  obtain ⟨y_3, hx2, h⟩ := bind_some' h
  have hq : (True) ∧ ((True) ∧ ((True) ∧ ((PureC Try.prog 32 [(.str text), (.int .i64 size), (.sl (.int .i64) fates)] (.tup (.cons (.st (.cons (.int .i64 y_3.1) (.cons (.str y_3.2.1) (.cons (.int .i64 y_3.2.2.1) (.int .i64 y_3.2.2.2.1))))) (.cons (.int .i64 y_3.2.2.2.2) .nil))) []) ∧ ((True) ∧ ((True) ∧ ((True) ∧ ((True) ∧ ((True) ∧ ((True) ∧ (True)))))))))) := ⟨trivial, ⟨trivial, ⟨trivial, ⟨F32_ok n text size fates y_3 hx2, ⟨trivial, ⟨trivial, ⟨trivial, ⟨trivial, ⟨trivial, ⟨trivial, trivial⟩⟩⟩⟩⟩⟩⟩⟩⟩⟩
  refine TS.reg [.none, .none, .none, (.call (.tup (.cons (.st (.cons (.int .i64 y_3.1) (.cons (.str y_3.2.1) (.cons (.int .i64 y_3.2.2.1) (.int .i64 y_3.2.2.2.1))))) (.cons (.int .i64 y_3.2.2.2.2) .nil))) [])] ?_ ?_
  · apply prop_of ?_ hq
    kernel_rfl
  refine XS.then ?_
  refine TS.seq ?_
  rcases bif_some h with ⟨c3, h⟩ | ⟨c4, h⟩
  · have hq : (True) ∧ ((True) ∧ ((True) ∧ (((True) ∧ (Sh.beq (.st (.pair (.int .i64) (.pair .str (.pair (.int .i64) (.int .i64))))) (y_2.1, (y_2.2.1, (y_2.2.2.1, y_2.2.2.2.1))) (y_3.1, (y_3.2.1, (y_3.2.2.1, y_3.2.2.2.1)))) = true) ∧ ((True) ∧ ((True) ∧ ((True) ∧ ((True) ∧ ((True) ∧ (True))))))))) := ⟨trivial, ⟨trivial, ⟨trivial, ⟨⟨trivial, c3⟩, ⟨trivial, ⟨trivial, ⟨trivial, ⟨trivial, ⟨trivial, trivial⟩⟩⟩⟩⟩⟩⟩⟩⟩
    refine TS.reg [.none, .none, .none, .dec true] ?_ ?_
    · apply prop_of ?_ hq
      kernel_rfl
    refine XS.then ?_
    refine TS.ret ?_
    obtain rfl : (y_2.2.2.2.2 == y_3.2.2.2.2) = r := Option.some.inj h
    exact XS.fin [] ((True) ∧ (True)) (by kernel_rfl) ⟨trivial, trivial⟩
  · have hq : (True) ∧ ((True) ∧ ((True) ∧ (((True) ∧ (Sh.beq (.st (.pair (.int .i64) (.pair .str (.pair (.int .i64) (.int .i64))))) (y_2.1, (y_2.2.1, (y_2.2.2.1, y_2.2.2.2.1))) (y_3.1, (y_3.2.1, (y_3.2.2.1, y_3.2.2.2.1)))) = false) ∧ ((True) ∧ ((True) ∧ (True)))))) := ⟨trivial, ⟨trivial, ⟨trivial, ⟨⟨trivial, c4⟩, ⟨trivial, ⟨trivial, trivial⟩⟩⟩⟩⟩⟩
    refine TS.reg [.none, .none, .none, .dec false] ?_ ?_
    · apply prop_of ?_ hq
      kernel_rfl
    refine XS.then ?_
    refine TS.ret ?_
    obtain rfl : false = r := Option.some.inj h
    exact XS.fin [] ((True) ∧ (True)) (by kernel_rfl) ⟨trivial, trivial⟩
end Go.Proofs.Ytmcjcioifgaihaa
