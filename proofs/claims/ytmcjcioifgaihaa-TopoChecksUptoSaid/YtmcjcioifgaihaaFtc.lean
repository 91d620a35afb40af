/- Functions of the program, as functions of values. -/
import Derived.Test.YtmcjcioifgaihaaFtcx1
import Derived.Test.YtmcjcioifgaihaaChecked
namespace Go.Proofs.Ytmcjcioifgaihaa
open Go Go.RowKit
set_option linter.unusedVariables false
set_option maxRecDepth 100000

/-! plugtree/plugref.Unplugged -/
def F38_j28 (n : Nat) (x : List ((List Int) × Int × Int × Int)) : (List ((List Int) × Int × Int × Int)) → Option ((List ((List Int) × Int × Int × Int)) × (List ((List Int) × Int × Int × Int)) × Int)
  | x_2 => (some (x, x_2, (0 : Int)))
def F38_l31 (n : Nat) (path : List Int) (x : List ((List Int) × Int × Int × Int)) (k38_31 : (Int × Int × (List ((List Int) × Int × Int × Int))) → Option ((List ((List Int) × Int × Int × Int)) × (List ((List Int) × Int × Int × Int)) × Int)) : (Int × Int × (List ((List Int) × Int × Int × Int))) → Option ((List ((List Int) × Int × Int × Int)) × (List ((List Int) × Int × Int × Int)) × Int)
  | (x_3, x_4, m1) => (bif (decide (x_4 < ((m1.length : Nat) : Int))) then (bif inb x_4 m1.length then ((F96 n ((m1.getD x_4.toNat (([] : List Int), ((0 : Int), ((0 : Int), (0 : Int))))).1) ((m1.getD x_4.toNat (([] : List Int), ((0 : Int), ((0 : Int), (0 : Int))))).2.1) ((m1.getD x_4.toNat (([] : List Int), ((0 : Int), ((0 : Int), (0 : Int))))).2.2.1) ((m1.getD x_4.toNat (([] : List Int), ((0 : Int), ((0 : Int), (0 : Int))))).2.2.2) path).bind fun y_7 => (bif (!(!y_7)) then (bif inb x_3 m1.length then (k38_31 ((IntKind.wrap .i64 (x_3 + (1 : Int))), (IntKind.wrap .i64 (x_4 + (1 : Int))), (m1.set x_3.toNat ((m1.getD x_4.toNat (([] : List Int), ((0 : Int), ((0 : Int), (0 : Int))))).1, ((m1.getD x_4.toNat (([] : List Int), ((0 : Int), ((0 : Int), (0 : Int))))).2.1, ((m1.getD x_4.toNat (([] : List Int), ((0 : Int), ((0 : Int), (0 : Int))))).2.2.1, (m1.getD x_4.toNat (([] : List Int), ((0 : Int), ((0 : Int), (0 : Int))))).2.2.2)))))) else none) else (k38_31 (x_3, (IntKind.wrap .i64 (x_4 + (1 : Int))), m1)))) else none) else (bif subB m1.length (some x_3) none then (bif subB ((splice m1 x_3.toNat (List.replicate (m1.length - x_3.toNat) (([] : List Int), ((0 : Int), ((0 : Int), (0 : Int)))))).length) none (some x_3) then (F38_j28 n x (((splice m1 x_3.toNat (List.replicate (m1.length - x_3.toNat) (([] : List Int), ((0 : Int), ((0 : Int), (0 : Int)))))).take (0 + x_3.toNat)).drop 0)) else none) else none))
def F38_j30 (n : Nat) (path : List Int) (y_6 : List ((List Int) × Int × Int × Int)) (x : List ((List Int) × Int × Int × Int)) : Int → Option ((List ((List Int) × Int × Int × Int)) × (List ((List Int) × Int × Int × Int)) × Int)
  | gone => (bif (gone == (-1 : Int)) then (F38_j28 n x y_6) else (loopF (F38_l31 n path x) n (gone, (IntKind.wrap .i64 (gone + (1 : Int))), y_6)))
def F38_l32 (n : Nat) (path : List Int) (y_6 : List ((List Int) × Int × Int × Int)) (x : List ((List Int) × Int × Int × Int)) (k38_32 : Int → Option ((List ((List Int) × Int × Int × Int)) × (List ((List Int) × Int × Int × Int)) × Int)) : Int → Option ((List ((List Int) × Int × Int × Int)) × (List ((List Int) × Int × Int × Int)) × Int)
  | x_5 => (bif (decide (x_5 < ((y_6.length : Nat) : Int))) then (bif inb x_5 y_6.length then ((F96 n ((y_6.getD x_5.toNat (([] : List Int), ((0 : Int), ((0 : Int), (0 : Int))))).1) ((y_6.getD x_5.toNat (([] : List Int), ((0 : Int), ((0 : Int), (0 : Int))))).2.1) ((y_6.getD x_5.toNat (([] : List Int), ((0 : Int), ((0 : Int), (0 : Int))))).2.2.1) ((y_6.getD x_5.toNat (([] : List Int), ((0 : Int), ((0 : Int), (0 : Int))))).2.2.2) path).bind fun y_8 => (bif (!y_8) then (F38_j30 n path y_6 x x_5) else (k38_32 (IntKind.wrap .i64 (x_5 + (1 : Int)))))) else none) else (F38_j30 n path y_6 x (-1 : Int)))
def F38_j23 (n : Nat) (path : List Int) (y_6 : List ((List Int) × Int × Int × Int)) : (List ((List Int) × Int × Int × Int)) → Option ((List ((List Int) × Int × Int × Int)) × (List ((List Int) × Int × Int × Int)) × Int)
  | x => (loopF (F38_l32 n path y_6 x) n (0 : Int))
def F38_l35 (n : Nat) (path : List Int) (y_6 : List ((List Int) × Int × Int × Int)) (k38_35 : (Int × Int × (List ((List Int) × Int × Int × Int))) → Option ((List ((List Int) × Int × Int × Int)) × (List ((List Int) × Int × Int × Int)) × Int)) : (Int × Int × (List ((List Int) × Int × Int × Int))) → Option ((List ((List Int) × Int × Int × Int)) × (List ((List Int) × Int × Int × Int)) × Int)
  | (x_6, x_7, m3) => (bif (decide (x_7 < ((m3.length : Nat) : Int))) then (bif inb x_7 m3.length then ((F96 n ((m3.getD x_7.toNat (([] : List Int), ((0 : Int), ((0 : Int), (0 : Int))))).1) ((m3.getD x_7.toNat (([] : List Int), ((0 : Int), ((0 : Int), (0 : Int))))).2.1) ((m3.getD x_7.toNat (([] : List Int), ((0 : Int), ((0 : Int), (0 : Int))))).2.2.1) ((m3.getD x_7.toNat (([] : List Int), ((0 : Int), ((0 : Int), (0 : Int))))).2.2.2) path).bind fun y_9 => (bif (!y_9) then (bif inb x_6 m3.length then (k38_35 ((IntKind.wrap .i64 (x_6 + (1 : Int))), (IntKind.wrap .i64 (x_7 + (1 : Int))), (m3.set x_6.toNat ((m3.getD x_7.toNat (([] : List Int), ((0 : Int), ((0 : Int), (0 : Int))))).1, ((m3.getD x_7.toNat (([] : List Int), ((0 : Int), ((0 : Int), (0 : Int))))).2.1, ((m3.getD x_7.toNat (([] : List Int), ((0 : Int), ((0 : Int), (0 : Int))))).2.2.1, (m3.getD x_7.toNat (([] : List Int), ((0 : Int), ((0 : Int), (0 : Int))))).2.2.2)))))) else none) else (k38_35 (x_6, (IntKind.wrap .i64 (x_7 + (1 : Int))), m3)))) else none) else (bif subB m3.length (some x_6) none then (bif subB ((splice m3 x_6.toNat (List.replicate (m3.length - x_6.toNat) (([] : List Int), ((0 : Int), ((0 : Int), (0 : Int)))))).length) none (some x_6) then (F38_j23 n path y_6 (((splice m3 x_6.toNat (List.replicate (m3.length - x_6.toNat) (([] : List Int), ((0 : Int), ((0 : Int), (0 : Int)))))).take (0 + x_6.toNat)).drop 0)) else none) else none))
def F38_j34 (n : Nat) (path : List Int) (y_6 : List ((List Int) × Int × Int × Int)) : Int → Option ((List ((List Int) × Int × Int × Int)) × (List ((List Int) × Int × Int × Int)) × Int)
  | gone_2 => (bif (gone_2 == (-1 : Int)) then (F38_j23 n path y_6 y_6) else (loopF (F38_l35 n path y_6) n (gone_2, (IntKind.wrap .i64 (gone_2 + (1 : Int))), y_6)))
def F38_l36 (n : Nat) (path : List Int) (y_6 : List ((List Int) × Int × Int × Int)) (k38_36 : Int → Option ((List ((List Int) × Int × Int × Int)) × (List ((List Int) × Int × Int × Int)) × Int)) : Int → Option ((List ((List Int) × Int × Int × Int)) × (List ((List Int) × Int × Int × Int)) × Int)
  | x_8 => (bif (decide (x_8 < ((y_6.length : Nat) : Int))) then (bif inb x_8 y_6.length then ((F96 n ((y_6.getD x_8.toNat (([] : List Int), ((0 : Int), ((0 : Int), (0 : Int))))).1) ((y_6.getD x_8.toNat (([] : List Int), ((0 : Int), ((0 : Int), (0 : Int))))).2.1) ((y_6.getD x_8.toNat (([] : List Int), ((0 : Int), ((0 : Int), (0 : Int))))).2.2.1) ((y_6.getD x_8.toNat (([] : List Int), ((0 : Int), ((0 : Int), (0 : Int))))).2.2.2) path).bind fun y_10 => (bif y_10 then (F38_j34 n path y_6 x_8) else (k38_36 (IntKind.wrap .i64 (x_8 + (1 : Int)))))) else none) else (F38_j34 n path y_6 (-1 : Int)))
def F38 (n : Nat) (tree : List ((List Int) × Int × Int × Int)) (path : List Int) : Option ((List ((List Int) × Int × Int × Int)) × (List ((List Int) × Int × Int × Int)) × Int) := ((F25 n tree).bind fun y_4 => (bif (y_4 != (0 : Int)) then (some (([] : List ((List Int) × Int × Int × Int)), ([] : List ((List Int) × Int × Int × Int)), y_4)) else ((F23 n tree path).bind fun y_5 => (bif (!y_5.2.2.2.2) then (some (([] : List ((List Int) × Int × Int × Int)), ([] : List ((List Int) × Int × Int × Int)), (12 : Int))) else ((F98 n tree).bind fun y_6 => (loopF (F38_l36 n path y_6) n (0 : Int)))))))
theorem F38_ok (n : Nat) (tree : List ((List Int) × Int × Int × Int)) (path : List Int) (r : (List ((List Int) × Int × Int × Int)) × (List ((List Int) × Int × Int × Int)) × Int) (h : F38 n tree path = some r) : PureC Try.prog 38 [(.sl (.st (.pair (.sl (.int .i64)) (.pair (.int .i64) (.pair (.int .i64) (.int .i64))))) tree), (.sl (.int .i64) path)] (.tup (.cons (.sl (.st (.pair (.sl (.int .i64)) (.pair (.int .i64) (.pair (.int .i64) (.int .i64))))) r.1) (.cons (.sl (.st (.pair (.sl (.int .i64)) (.pair (.int .i64) (.pair (.int .i64) (.int .i64))))) r.2.1) (.cons (.int .i64 r.2.2) .nil)))) [] := by
  refine PureC.mkS Try.func38 rfl rfl ?_
  intro w0 fz0 hfz
  replace h : ((F25 n tree).bind fun y_4 => (bif (y_4 != (0 : Int)) then (some (([] : List ((List Int) × Int × Int × Int)), ([] : List ((List Int) × Int × Int × Int)), y_4)) else ((F23 n tree path).bind fun y_5 => (bif (!y_5.2.2.2.2) then (some (([] : List ((List Int) × Int × Int × Int)), ([] : List ((List Int) × Int × Int × Int)), (12 : Int))) else ((F98 n tree).bind fun y_6 => (loopF (F38_l36 n path y_6) n (0 : Int))))))) = some r := h
  refine TS.seq ?_
  have hq : (True) ∧ ((True) ∧ ((True) ∧ ((True) ∧ (True)))) := ⟨trivial, ⟨trivial, ⟨trivial, ⟨trivial, trivial⟩⟩⟩⟩
  refine TS.reg [] ?_ ?_
  · apply prop_of ?_ hq
    kernel_rfl
  refine XS.then ?_
  refine TS.seq ?_
  refine TS.seq ?_
  obtain ⟨y_4, hx1, h⟩ := bind_some' h
  have hq : (True) ∧ ((PureC Try.prog 25 [(.sl (.st (.pair (.sl (.int .i64)) (.pair (.int .i64) (.pair (.int .i64) (.int .i64))))) tree)] (.int .i64 y_4) []) ∧ ((True) ∧ (True))) := ⟨trivial, ⟨F25_ok n tree y_4 hx1, ⟨trivial, trivial⟩⟩⟩
  refine TS.reg [.none, (.call (.int .i64 y_4) [])] ?_ ?_
  · apply prop_of ?_ hq
    kernel_rfl
  refine XS.then ?_
  refine TS.seq ?_
  have hq : (True) ∧ ((True) ∧ (True)) := ⟨trivial, ⟨trivial, trivial⟩⟩
  refine TS.reg [] ?_ ?_
  · apply prop_of ?_ hq
    kernel_rfl
  refine XS.then ?_
  rcases bif_some h with ⟨c2, h⟩ | ⟨c3, h⟩
  · refine TS.cond (y_4 != (0 : Int)) ?_ (fun hcz => ?_) (fun hcz => by rw [c2] at hcz; cases hcz)
    · kernel_rfl
    refine TS.seq ?_
    have hq : (True) ∧ ((True) ∧ ((True) ∧ ((True) ∧ (True)))) := ⟨trivial, ⟨trivial, ⟨trivial, ⟨trivial, trivial⟩⟩⟩⟩
    refine TS.reg [] ?_ ?_
    · apply prop_of ?_ hq
      kernel_rfl
    refine XS.then ?_
    refine TS.ret ?_
    refine XS.passR ?_
    obtain rfl : (([] : List ((List Int) × Int × Int × Int)), ([] : List ((List Int) × Int × Int × Int)), y_4) = r := Option.some.inj h
    refine XS.wk (.view false 4 [] (.st (.pair (.sl (.int .i64)) (.pair (.int .i64) (.pair (.int .i64) (.int .i64)))))) ?_
    refine XS.wk (.view false 5 [] (.st (.pair (.sl (.int .i64)) (.pair (.int .i64) (.pair (.int .i64) (.int .i64)))))) ?_
    exact XS.fin [] ((True) ∧ ((True) ∧ ((True) ∧ (True)))) (by kernel_rfl) ⟨trivial, ⟨trivial, ⟨trivial, trivial⟩⟩⟩
  · refine TS.cond (y_4 != (0 : Int)) ?_ (fun hcz => by rw [c3] at hcz; cases hcz) (fun hcz => ?_)
    · kernel_rfl
    refine TS.skip ?_
    refine XS.then ?_
    refine TS.seq ?_
    refine TS.seq ?_
    obtain ⟨y_5, hx4, h⟩ := bind_some' h
    have hq : (True) ∧ ((True) ∧ ((PureC Try.prog 23 [(.sl (.st (.pair (.sl (.int .i64)) (.pair (.int .i64) (.pair (.int .i64) (.int .i64))))) tree), (.sl (.int .i64) path)] (.tup (.cons (.st (.cons (.sl (.int .i64) y_5.1) (.cons (.int .i64 y_5.2.1) (.cons (.int .i64 y_5.2.2.1) (.int .i64 y_5.2.2.2.1))))) (.cons (.bool y_5.2.2.2.2) .nil))) []) ∧ ((True) ∧ ((True) ∧ ((True) ∧ ((True) ∧ ((True) ∧ ((True) ∧ (True))))))))) := ⟨trivial, ⟨trivial, ⟨F23_ok n tree path y_5 hx4, ⟨trivial, ⟨trivial, ⟨trivial, ⟨trivial, ⟨trivial, ⟨trivial, trivial⟩⟩⟩⟩⟩⟩⟩⟩⟩
    refine TS.reg [.none, .none, (.call (.tup (.cons (.st (.cons (.sl (.int .i64) y_5.1) (.cons (.int .i64 y_5.2.1) (.cons (.int .i64 y_5.2.2.1) (.int .i64 y_5.2.2.2.1))))) (.cons (.bool y_5.2.2.2.2) .nil))) [])] ?_ ?_
    · apply prop_of ?_ hq
      kernel_rfl
    refine XS.then ?_
    refine TS.seq ?_
    have hq : (True) ∧ ((True) ∧ (True)) := ⟨trivial, ⟨trivial, trivial⟩⟩
    refine TS.reg [] ?_ ?_
    · apply prop_of ?_ hq
      kernel_rfl
    refine XS.then ?_
    rcases bif_some h with ⟨c5, h⟩ | ⟨c6, h⟩
    · refine TS.cond (!y_5.2.2.2.2) ?_ (fun hcz => ?_) (fun hcz => by rw [c5] at hcz; cases hcz)
      · kernel_rfl
      refine TS.seq ?_
      have hq : (True) ∧ ((True) ∧ ((True) ∧ (True))) := ⟨trivial, ⟨trivial, ⟨trivial, trivial⟩⟩⟩
      refine TS.reg [] ?_ ?_
      · apply prop_of ?_ hq
        kernel_rfl
      refine XS.then ?_
      refine TS.ret ?_
      refine XS.passR ?_
      obtain rfl : (([] : List ((List Int) × Int × Int × Int)), ([] : List ((List Int) × Int × Int × Int)), (12 : Int)) = r := Option.some.inj h
      refine XS.wk (.view false 4 [] (.st (.pair (.sl (.int .i64)) (.pair (.int .i64) (.pair (.int .i64) (.int .i64)))))) ?_
      refine XS.wk (.view false 5 [] (.st (.pair (.sl (.int .i64)) (.pair (.int .i64) (.pair (.int .i64) (.int .i64)))))) ?_
      exact XS.fin [] ((True) ∧ ((True) ∧ ((True) ∧ (True)))) (by kernel_rfl) ⟨trivial, ⟨trivial, ⟨trivial, trivial⟩⟩⟩
    · refine TS.cond (!y_5.2.2.2.2) ?_ (fun hcz => by rw [c6] at hcz; cases hcz) (fun hcz => ?_)
      · kernel_rfl
      refine TS.skip ?_
      refine XS.then ?_
      refine TS.seq ?_
      have hq : (True) ∧ ((True) ∧ ((True) ∧ (True))) := ⟨trivial, ⟨trivial, ⟨trivial, trivial⟩⟩⟩
      refine TS.reg [] ?_ ?_
      · apply prop_of ?_ hq
        kernel_rfl
      refine XS.then ?_
      refine TS.seq ?_
      obtain ⟨y_6, hx7, h⟩ := bind_some' h
      have hq : (True) ∧ ((PureC Try.prog 98 [(.sl (.st (.pair (.sl (.int .i64)) (.pair (.int .i64) (.pair (.int .i64) (.int .i64))))) tree)] (.row 0) [(.row 45 (.st (.pair (.sl (.int .i64)) (.pair (.int .i64) (.pair (.int .i64) (.int .i64))))) y_6)]) ∧ ((True) ∧ (True))) := ⟨trivial, ⟨F98_ok n tree y_6 hx7, ⟨trivial, trivial⟩⟩⟩
      refine TS.drawH 3 [] [.none, (.call (.row 0) [(.row 45 (.st (.pair (.sl (.int .i64)) (.pair (.int .i64) (.pair (.int .i64) (.int .i64))))) y_6)])] (by kernel_rfl) ?_ ?_
      · apply prop_of ?_ hq
        kernel_rfl
      refine TOS.callJ (D := List ((List Int) × Int × Int × Int)) (fun d => match d with | x => (mkTs 37 [(0, (.sl (.st (.pair (.sl (.int .i64)) (.pair (.int .i64) (.pair (.int .i64) (.int .i64))))) tree)), (10, (.ptr 0 [])), (30, (.sl (.st (.pair (.sl (.int .i64)) (.pair (.int .i64) (.pair (.int .i64) (.int .i64))))) x))], [(.box 121 (.fn 96 (.cons (.ptr 1 []) .nil))), (.box 43 (.sl (.int .i64) path))])) (fun d => F38_j23 n path y_6 d = some r) 97 (mkMask 37 [0, 10]) Try.func97 rfl ?_ ?_
      · rintro x h
        replace h : (loopF (F38_l32 n path y_6 x) n (0 : Int)) = some r := h
        have hq : (True) ∧ (True) := ⟨trivial, trivial⟩
        refine TOS.run 1 [] (by kernel_rfl) ?_ ?_
        · apply prop_of ?_ hq
          kernel_rfl
        refine TOS.nil (by kernel_rfl) ?_
        refine XS.then ?_
        refine TS.seq ?_
        refine TS.opsOf ?_
        have hq : (True) ∧ ((PureC Try.prog 98 [(.sl (.st (.pair (.sl (.int .i64)) (.pair (.int .i64) (.pair (.int .i64) (.int .i64))))) tree)] (.row 0) [(.row 45 (.st (.pair (.sl (.int .i64)) (.pair (.int .i64) (.pair (.int .i64) (.int .i64))))) y_6)]) ∧ ((True) ∧ (True))) := ⟨trivial, ⟨F98_ok n tree y_6 hx7, ⟨trivial, trivial⟩⟩⟩
        refine TOS.run 3 [.none, (.call (.row 0) [(.row 45 (.st (.pair (.sl (.int .i64)) (.pair (.int .i64) (.pair (.int .i64) (.int .i64))))) y_6)])] (by kernel_rfl) ?_ ?_
        · apply prop_of ?_ hq
          kernel_rfl
        refine TOS.callJ (D := List ((List Int) × Int × Int × Int)) (fun d => match d with | x_2 => (mkTs 37 [(11, (.sl (.st (.pair (.sl (.int .i64)) (.pair (.int .i64) (.pair (.int .i64) (.int .i64))))) x)), (34, (.sl (.st (.pair (.sl (.int .i64)) (.pair (.int .i64) (.pair (.int .i64) (.int .i64))))) x_2))], [])) (fun d => F38_j28 n x d = some r) 97 (mkMask 37 [11]) Try.func97 rfl ?_ ?_
        · rintro x_2 h
          replace h : (some (x, x_2, (0 : Int))) = some r := h
          have hq : (True) ∧ (True) := ⟨trivial, trivial⟩
          refine TOS.run 1 [] (by kernel_rfl) ?_ ?_
          · apply prop_of ?_ hq
            kernel_rfl
          refine TOS.nil (by kernel_rfl) ?_
          refine XS.then ?_
          refine TS.seq ?_
          have hq : (True) ∧ ((True) ∧ ((True) ∧ ((True) ∧ ((True) ∧ (True))))) := ⟨trivial, ⟨trivial, ⟨trivial, ⟨trivial, ⟨trivial, trivial⟩⟩⟩⟩⟩
          refine TS.reg [] ?_ ?_
          · apply prop_of ?_ hq
            kernel_rfl
          refine XS.then ?_
          refine TS.ret ?_
          obtain rfl : (x, x_2, (0 : Int)) = r := Option.some.inj h
          exact XS.fin [] ((True) ∧ ((True) ∧ ((True) ∧ (True)))) (by kernel_rfl) ⟨trivial, ⟨trivial, ⟨trivial, trivial⟩⟩⟩
        · intro fv27
          refine ⟨(mkTs 42 [(0, (.row 2)), (1, (.fn 99 (.cons (.ptr 0 []) .nil)))], [(.box 121 (.fn 96 (.cons (.ptr 1 []) .nil))), (.box 43 (.sl (.int .i64) path)), (.row 45 (.st (.pair (.sl (.int .i64)) (.pair (.int .i64) (.pair (.int .i64) (.int .i64))))) y_6), (.sav (mkTs 37 [(11, (.sl (.st (.pair (.sl (.int .i64)) (.pair (.int .i64) (.pair (.int .i64) (.int .i64))))) x))]) fv27)]), by kernel_rfl, ?_⟩
          refine TS.seq ?_
          have hq : (True) ∧ (True) := ⟨trivial, trivial⟩
          refine TS.reg [] ?_ ?_
          · apply prop_of ?_ hq
            kernel_rfl
          refine XS.then ?_
          refine TS.seq ?_
          refine TS.opsOf ?_
          have hq : (True) ∧ ((True) ∧ (True)) := ⟨trivial, ⟨trivial, trivial⟩⟩
          refine TOS.run 2 [] (by kernel_rfl) ?_ ?_
          · apply prop_of ?_ hq
            kernel_rfl
          refine TOS.callJ (D := Int) (fun d => match d with | gone => (mkTs 42 [(0, (.row 1)), (1, (.fn 99 (.cons (.ptr 2 []) .nil))), (10, (.int .i64 gone))], [(.sav (mkTs 37 [(11, (.sl (.st (.pair (.sl (.int .i64)) (.pair (.int .i64) (.pair (.int .i64) (.int .i64))))) x))]) fv27), (.row 45 (.st (.pair (.sl (.int .i64)) (.pair (.int .i64) (.pair (.int .i64) (.int .i64))))) y_6), (.box 121 (.fn 96 (.cons (.ptr 3 []) .nil))), (.box 43 (.sl (.int .i64) path))])) (fun d => F38_j30 n path y_6 x d = some r) 68 (mkMask 42 [0, 1]) Try.func68 rfl ?_ ?_
          · rintro gone h
            replace h : (bif (gone == (-1 : Int)) then (F38_j28 n x y_6) else (loopF (F38_l31 n path x) n (gone, (IntKind.wrap .i64 (gone + (1 : Int))), y_6))) = some r := h
            have hq : (True) ∧ (True) := ⟨trivial, trivial⟩
            refine TOS.run 1 [] (by kernel_rfl) ?_ ?_
            · apply prop_of ?_ hq
              kernel_rfl
            refine TOS.nil (by kernel_rfl) ?_
            refine XS.then ?_
            refine TS.seq ?_
            refine TS.seq ?_
            have hq : (True) ∧ ((True) ∧ (True)) := ⟨trivial, ⟨trivial, trivial⟩⟩
            refine TS.reg [] ?_ ?_
            · apply prop_of ?_ hq
              kernel_rfl
            refine XS.then ?_
            rcases bif_some h with ⟨c8, h⟩ | ⟨c9, h⟩
            · refine TS.cond (gone == (-1 : Int)) ?_ (fun hcz => ?_) (fun hcz => by rw [c8] at hcz; cases hcz)
              · kernel_rfl
              refine TS.seq ?_
              have hq : (True) ∧ ((True) ∧ (True)) := ⟨trivial, ⟨trivial, trivial⟩⟩
              refine TS.reg [] ?_ ?_
              · apply prop_of ?_ hq
                kernel_rfl
              refine XS.then ?_
              refine TS.ret ?_
              refine XS.passR ?_
              refine XS.backR 0 (mkTs 37 [(11, (.sl (.st (.pair (.sl (.int .i64)) (.pair (.int .i64) (.pair (.int .i64) (.int .i64))))) x))]) (mkTs 37 [(11, (.sl (.st (.pair (.sl (.int .i64)) (.pair (.int .i64) (.pair (.int .i64) (.int .i64))))) x)), (34, (.row 1))], [.dead, (.row 45 (.st (.pair (.sl (.int .i64)) (.pair (.int .i64) (.pair (.int .i64) (.int .i64))))) y_6), (.box 121 (.fn 96 (.cons (.ptr 3 []) .nil))), (.box 43 (.sl (.int .i64) path))]) ((True) ∧ (True)) (by kernel_rfl) (by kernel_rfl) ⟨trivial, trivial⟩ ?_
              refine KS.ofX ?_
              refine XS.wk (.frz 1) ?_
              refine XS.reAny [] (mkMask 37 [11, 34]) y_6 h ?_
              kernel_rfl
            · refine TS.cond (gone == (-1 : Int)) ?_ (fun hcz => by rw [c9] at hcz; cases hcz) (fun hcz => ?_)
              · kernel_rfl
              refine TS.skip ?_
              refine XS.then ?_
              refine TS.seq ?_
              refine TS.seq ?_
              have hq : (True) ∧ ((True) ∧ ((True) ∧ (True))) := ⟨trivial, ⟨trivial, ⟨trivial, trivial⟩⟩⟩
              refine TS.reg [] ?_ ?_
              · apply prop_of ?_ hq
                kernel_rfl
              refine XS.then ?_
              refine TS.block ?_
              refine TS.reLoop [0, 1, 2, 3] (mkMask 42 [0, 1, 5, 6]) (D := Int × Int × (List ((List Int) × Int × Int × Int))) (fun d => match d with | (x_3, x_4, m1) => (mkTs 42 [(0, (.row 1)), (1, (.fn 99 (.cons (.ptr 2 []) .nil))), (5, (.int .i64 x_3)), (6, (.int .i64 x_4))], [(.sav (mkTs 37 [(11, (.sl (.st (.pair (.sl (.int .i64)) (.pair (.int .i64) (.pair (.int .i64) (.int .i64))))) x))]) fv27), (.row 45 (.st (.pair (.sl (.int .i64)) (.pair (.int .i64) (.pair (.int .i64) (.int .i64))))) m1), (.box 121 (.fn 96 (.cons (.ptr 3 []) .nil))), (.box 43 (.sl (.int .i64) path))])) (fun n' d => loopF (F38_l31 n path x) n' d = some r) n (gone, (IntKind.wrap .i64 (gone + (1 : Int))), y_6) h ?_ (fun d => loopF_zero _ d r) ?_
              · kernel_rfl
              · rintro n31 ⟨x_3, x_4, m1⟩ h
                replace h : (bif (decide (x_4 < ((m1.length : Nat) : Int))) then (bif inb x_4 m1.length then ((F96 n ((m1.getD x_4.toNat (([] : List Int), ((0 : Int), ((0 : Int), (0 : Int))))).1) ((m1.getD x_4.toNat (([] : List Int), ((0 : Int), ((0 : Int), (0 : Int))))).2.1) ((m1.getD x_4.toNat (([] : List Int), ((0 : Int), ((0 : Int), (0 : Int))))).2.2.1) ((m1.getD x_4.toNat (([] : List Int), ((0 : Int), ((0 : Int), (0 : Int))))).2.2.2) path).bind fun y_7 => (bif (!(!y_7)) then (bif inb x_3 m1.length then ((loopF (F38_l31 n path x) n31) ((IntKind.wrap .i64 (x_3 + (1 : Int))), (IntKind.wrap .i64 (x_4 + (1 : Int))), (m1.set x_3.toNat ((m1.getD x_4.toNat (([] : List Int), ((0 : Int), ((0 : Int), (0 : Int))))).1, ((m1.getD x_4.toNat (([] : List Int), ((0 : Int), ((0 : Int), (0 : Int))))).2.1, ((m1.getD x_4.toNat (([] : List Int), ((0 : Int), ((0 : Int), (0 : Int))))).2.2.1, (m1.getD x_4.toNat (([] : List Int), ((0 : Int), ((0 : Int), (0 : Int))))).2.2.2)))))) else none) else ((loopF (F38_l31 n path x) n31) (x_3, (IntKind.wrap .i64 (x_4 + (1 : Int))), m1)))) else none) else (bif subB m1.length (some x_3) none then (bif subB ((splice m1 x_3.toNat (List.replicate (m1.length - x_3.toNat) (([] : List Int), ((0 : Int), ((0 : Int), (0 : Int)))))).length) none (some x_3) then (F38_j28 n x (((splice m1 x_3.toNat (List.replicate (m1.length - x_3.toNat) (([] : List Int), ((0 : Int), ((0 : Int), (0 : Int)))))).take (0 + x_3.toNat)).drop 0)) else none) else none)) = some r := h
                refine TS.seq ?_
                refine TS.seq ?_
                have hq : (True) ∧ ((True) ∧ ((True) ∧ ((True) ∧ (True)))) := ⟨trivial, ⟨trivial, ⟨trivial, ⟨trivial, trivial⟩⟩⟩⟩
                refine TS.reg [] ?_ ?_
                · apply prop_of ?_ hq
                  kernel_rfl
                refine XS.then ?_
                rcases bif_some h with ⟨c10, h⟩ | ⟨c11, h⟩
                · refine TS.cond (decide (x_4 < ((m1.length : Nat) : Int))) ?_ (fun hcz => ?_) (fun hcz => by rw [c10] at hcz; cases hcz)
                  · kernel_rfl
                  refine TS.skip ?_
                  refine XS.then ?_
                  refine TS.seq ?_
                  refine TS.block ?_
                  refine TS.seq ?_
                  obtain ⟨t12, h⟩ := test_some h
                  have hq : (True) ∧ ((True) ∧ ((inR x_4 m1.length) ∧ ((x_4.toNat < m1.length ∧ (True)) ∧ ((True) ∧ ((True) ∧ (True)))))) := ⟨trivial, ⟨trivial, ⟨inb_ok t12, ⟨⟨inR_lt (inb_ok t12), trivial⟩, ⟨trivial, ⟨trivial, trivial⟩⟩⟩⟩⟩⟩
                  refine TS.reg [] ?_ ?_
                  · apply prop_of ?_ hq
                    kernel_rfl
                  refine XS.then ?_
                  refine TS.seq ?_
                  refine TS.opsOf ?_
                  have hq : (True) ∧ ((True) ∧ (True)) := ⟨trivial, ⟨trivial, trivial⟩⟩
                  refine TOS.run 2 [] (by kernel_rfl) ?_ ?_
                  · apply prop_of ?_ hq
                    kernel_rfl
                  refine TOS.call 99 (mkMask 42 [0, 1, 5, 6, 7]) Try.func99 rfl ?_
                  intro fv44
                  refine ⟨(mkTs 8 [(0, (.st (.cons (.sl (.int .i64) (m1.getD x_4.toNat (([] : List Int), ((0 : Int), ((0 : Int), (0 : Int))))).1) (.cons (.int .i64 (m1.getD x_4.toNat (([] : List Int), ((0 : Int), ((0 : Int), (0 : Int))))).2.1) (.cons (.int .i64 (m1.getD x_4.toNat (([] : List Int), ((0 : Int), ((0 : Int), (0 : Int))))).2.2.1) (.int .i64 (m1.getD x_4.toNat (([] : List Int), ((0 : Int), ((0 : Int), (0 : Int))))).2.2.2)))))), (1, (.ptr 2 []))], [(.sav (mkTs 37 [(11, (.sl (.st (.pair (.sl (.int .i64)) (.pair (.int .i64) (.pair (.int .i64) (.int .i64))))) x))]) fv27), (.row 45 (.st (.pair (.sl (.int .i64)) (.pair (.int .i64) (.pair (.int .i64) (.int .i64))))) m1), (.box 121 (.fn 96 (.cons (.ptr 3 []) .nil))), (.box 43 (.sl (.int .i64) path)), (.box 45 (.st (.cons (.sl (.int .i64) (m1.getD x_4.toNat (([] : List Int), ((0 : Int), ((0 : Int), (0 : Int))))).1) (.cons (.int .i64 (m1.getD x_4.toNat (([] : List Int), ((0 : Int), ((0 : Int), (0 : Int))))).2.1) (.cons (.int .i64 (m1.getD x_4.toNat (([] : List Int), ((0 : Int), ((0 : Int), (0 : Int))))).2.2.1) (.int .i64 (m1.getD x_4.toNat (([] : List Int), ((0 : Int), ((0 : Int), (0 : Int))))).2.2.2)))))), (.sav (mkTs 42 [(0, (.row 1)), (1, (.fn 99 (.cons (.ptr 2 []) .nil))), (5, (.int .i64 x_3)), (6, (.int .i64 x_4)), (7, (.ptr 4 []))]) fv44)]), by kernel_rfl, ?_⟩
                  refine TS.seq ?_
                  have hq : (True) ∧ ((True) ∧ (True)) := ⟨trivial, ⟨trivial, trivial⟩⟩
                  refine TS.reg [] ?_ ?_
                  · apply prop_of ?_ hq
                    kernel_rfl
                  refine XS.then ?_
                  refine TS.seq ?_
                  obtain ⟨y_7, hx13, h⟩ := bind_some' h
                  have hq : (True) ∧ ((True) ∧ (((((True) ∧ ((True) ∧ ((True) ∧ (True)))) ∧ ((True) ∧ (True))) ∧ PureC Try.prog 96 [(.st (.cons (.sl (.int .i64) (m1.getD x_4.toNat (([] : List Int), ((0 : Int), ((0 : Int), (0 : Int))))).1) (.cons (.int .i64 (m1.getD x_4.toNat (([] : List Int), ((0 : Int), ((0 : Int), (0 : Int))))).2.1) (.cons (.int .i64 (m1.getD x_4.toNat (([] : List Int), ((0 : Int), ((0 : Int), (0 : Int))))).2.2.1) (.int .i64 (m1.getD x_4.toNat (([] : List Int), ((0 : Int), ((0 : Int), (0 : Int))))).2.2.2))))), (.pv (.sl (.int .i64) path))] (.bool y_7) []) ∧ ((True) ∧ ((True) ∧ (True))))) := ⟨trivial, ⟨trivial, ⟨⟨⟨⟨trivial, ⟨trivial, ⟨trivial, trivial⟩⟩⟩, ⟨trivial, trivial⟩⟩, F96_ok n ((m1.getD x_4.toNat (([] : List Int), ((0 : Int), ((0 : Int), (0 : Int))))).1) ((m1.getD x_4.toNat (([] : List Int), ((0 : Int), ((0 : Int), (0 : Int))))).2.1) ((m1.getD x_4.toNat (([] : List Int), ((0 : Int), ((0 : Int), (0 : Int))))).2.2.1) ((m1.getD x_4.toNat (([] : List Int), ((0 : Int), ((0 : Int), (0 : Int))))).2.2.2) path y_7 hx13⟩, ⟨trivial, ⟨trivial, trivial⟩⟩⟩⟩⟩
                  refine TS.reg [.none, .none, (.call (.bool y_7) [])] ?_ ?_
                  · apply prop_of ?_ hq
                    kernel_rfl
                  refine XS.then ?_
                  refine TS.ret ?_
                  refine XS.backR 5 (mkTs 42 [(0, (.row 1)), (1, (.fn 99 (.cons (.ptr 2 []) .nil))), (5, (.int .i64 x_3)), (6, (.int .i64 x_4)), (7, (.ptr 4 []))]) (mkTs 42 [(0, (.row 1)), (1, (.fn 99 (.cons (.ptr 2 []) .nil))), (5, (.int .i64 x_3)), (6, (.int .i64 x_4)), (7, (.ptr 4 [])), (28, (.bool (!y_7)))], [(.sav (mkTs 37 [(11, (.sl (.st (.pair (.sl (.int .i64)) (.pair (.int .i64) (.pair (.int .i64) (.int .i64))))) x))]) fv27), (.row 45 (.st (.pair (.sl (.int .i64)) (.pair (.int .i64) (.pair (.int .i64) (.int .i64))))) m1), (.box 121 (.fn 96 (.cons (.ptr 3 []) .nil))), (.box 43 (.sl (.int .i64) path)), (.box 45 (.st (.cons (.sl (.int .i64) (m1.getD x_4.toNat (([] : List Int), ((0 : Int), ((0 : Int), (0 : Int))))).1) (.cons (.int .i64 (m1.getD x_4.toNat (([] : List Int), ((0 : Int), ((0 : Int), (0 : Int))))).2.1) (.cons (.int .i64 (m1.getD x_4.toNat (([] : List Int), ((0 : Int), ((0 : Int), (0 : Int))))).2.2.1) (.int .i64 (m1.getD x_4.toNat (([] : List Int), ((0 : Int), ((0 : Int), (0 : Int))))).2.2.2)))))), .dead, (.box 45 (.st (.cons (.sl (.int .i64) (m1.getD x_4.toNat (([] : List Int), ((0 : Int), ((0 : Int), (0 : Int))))).1) (.cons (.int .i64 (m1.getD x_4.toNat (([] : List Int), ((0 : Int), ((0 : Int), (0 : Int))))).2.1) (.cons (.int .i64 (m1.getD x_4.toNat (([] : List Int), ((0 : Int), ((0 : Int), (0 : Int))))).2.2.1) (.int .i64 (m1.getD x_4.toNat (([] : List Int), ((0 : Int), ((0 : Int), (0 : Int))))).2.2.2))))))]) ((True) ∧ (True)) (by kernel_rfl) (by kernel_rfl) ⟨trivial, trivial⟩ ?_
                  refine KS.opsOf ?_
                  have hq : (True) ∧ (True) := ⟨trivial, trivial⟩
                  refine TOS.run 1 [] (by kernel_rfl) ?_ ?_
                  · apply prop_of ?_ hq
                    kernel_rfl
                  refine TOS.nil (by kernel_rfl) ?_
                  refine XS.then ?_
                  rcases bif_some h with ⟨c14, h⟩ | ⟨c15, h⟩
                  · refine TS.cond (!(!y_7)) ?_ (fun hcz => ?_) (fun hcz => by rw [c14] at hcz; cases hcz)
                    · kernel_rfl
                    refine TS.seq ?_
                    obtain ⟨t16, h⟩ := test_some h
                    have hq : (True) ∧ ((True) ∧ ((True) ∧ ((inR x_3 m1.length) ∧ (((x_3.toNat < m1.length ∧ (True)) ∧ m1.length = m1.length) ∧ (True))))) := ⟨trivial, ⟨trivial, ⟨trivial, ⟨inb_ok t16, ⟨⟨⟨inR_lt (inb_ok t16), trivial⟩, rfl⟩, trivial⟩⟩⟩⟩⟩
                    refine TS.reg [] ?_ ?_
                    · apply prop_of ?_ hq
                      kernel_rfl
                    refine XS.then ?_
                    have hq : (True) ∧ ((True) ∧ ((True) ∧ (True))) := ⟨trivial, ⟨trivial, ⟨trivial, trivial⟩⟩⟩
                    refine TS.reg [] ?_ ?_
                    · apply prop_of ?_ hq
                      kernel_rfl
                    refine XS.blockEnd ?_
                    refine XS.then ?_
                    have hq : (True) ∧ ((True) ∧ ((True) ∧ (True))) := ⟨trivial, ⟨trivial, ⟨trivial, trivial⟩⟩⟩
                    refine TS.reg [] ?_ ?_
                    · apply prop_of ?_ hq
                      kernel_rfl
                    refine XS.reAny [0, 1, 2, 3] (mkMask 42 [0, 1, 5, 6]) ((IntKind.wrap .i64 (x_3 + (1 : Int))), (IntKind.wrap .i64 (x_4 + (1 : Int))), (m1.set x_3.toNat ((m1.getD x_4.toNat (([] : List Int), ((0 : Int), ((0 : Int), (0 : Int))))).1, ((m1.getD x_4.toNat (([] : List Int), ((0 : Int), ((0 : Int), (0 : Int))))).2.1, ((m1.getD x_4.toNat (([] : List Int), ((0 : Int), ((0 : Int), (0 : Int))))).2.2.1, (m1.getD x_4.toNat (([] : List Int), ((0 : Int), ((0 : Int), (0 : Int))))).2.2.2))))) h ?_
                    kernel_rfl
                  · refine TS.cond (!(!y_7)) ?_ (fun hcz => by rw [c15] at hcz; cases hcz) (fun hcz => ?_)
                    · kernel_rfl
                    refine TS.skip ?_
                    refine XS.blockEnd ?_
                    refine XS.then ?_
                    have hq : (True) ∧ ((True) ∧ ((True) ∧ (True))) := ⟨trivial, ⟨trivial, ⟨trivial, trivial⟩⟩⟩
                    refine TS.reg [] ?_ ?_
                    · apply prop_of ?_ hq
                      kernel_rfl
                    refine XS.reAny [0, 1, 2, 3] (mkMask 42 [0, 1, 5, 6]) (x_3, (IntKind.wrap .i64 (x_4 + (1 : Int))), m1) h ?_
                    kernel_rfl
                · refine TS.cond (decide (x_4 < ((m1.length : Nat) : Int))) ?_ (fun hcz => by rw [c11] at hcz; cases hcz) (fun hcz => ?_)
                  · kernel_rfl
                  refine TS.exit ?_
                  refine XS.passE ?_
                  refine XS.passE ?_
                  refine XS.out ?_
                  refine XS.then ?_
                  refine TS.seq ?_
                  obtain ⟨t17, h⟩ := test_some h
                  have hq : (True) ∧ ((True) ∧ ((subC m1.length (some x_3) none) ∧ ((True) ∧ (True)))) := ⟨trivial, ⟨trivial, ⟨subB_ok t17, ⟨trivial, trivial⟩⟩⟩⟩
                  refine TS.reg [] ?_ ?_
                  · apply prop_of ?_ hq
                    kernel_rfl
                  refine XS.then ?_
                  refine TS.seq ?_
                  obtain ⟨t18, h⟩ := test_some h
                  have hq : (True) ∧ ((True) ∧ ((subC ((splice m1 x_3.toNat (List.replicate (m1.length - x_3.toNat) (([] : List Int), ((0 : Int), ((0 : Int), (0 : Int)))))).length) none (some x_3)) ∧ ((True) ∧ (True)))) := ⟨trivial, ⟨trivial, ⟨subB_ok t18, ⟨trivial, trivial⟩⟩⟩⟩
                  refine TS.reg [] ?_ ?_
                  · apply prop_of ?_ hq
                    kernel_rfl
                  refine XS.then ?_
                  refine TS.ret ?_
                  refine XS.backR 0 (mkTs 37 [(11, (.sl (.st (.pair (.sl (.int .i64)) (.pair (.int .i64) (.pair (.int .i64) (.int .i64))))) x))]) (mkTs 37 [(11, (.sl (.st (.pair (.sl (.int .i64)) (.pair (.int .i64) (.pair (.int .i64) (.int .i64))))) x)), (34, (.sub 1 4 0 x_3.toNat))], [.dead, (.row 45 (.st (.pair (.sl (.int .i64)) (.pair (.int .i64) (.pair (.int .i64) (.int .i64))))) (splice m1 x_3.toNat (List.replicate (m1.length - x_3.toNat) (([] : List Int), ((0 : Int), ((0 : Int), (0 : Int))))))), (.box 121 (.fn 96 (.cons (.ptr 3 []) .nil))), (.box 43 (.sl (.int .i64) path))]) ((True) ∧ (True)) (by kernel_rfl) (by kernel_rfl) ⟨trivial, trivial⟩ ?_
                  refine KS.ofX ?_
                  refine XS.wk (.frz 1) ?_
                  refine XS.reAny [] (mkMask 37 [11, 34]) (((splice m1 x_3.toNat (List.replicate (m1.length - x_3.toNat) (([] : List Int), ((0 : Int), ((0 : Int), (0 : Int)))))).take (0 + x_3.toNat)).drop 0) h ?_
                  kernel_rfl
          · intro fv38
            refine ⟨(mkTs 19 [(0, (.row 2)), (1, (.fn 99 (.cons (.ptr 0 []) .nil)))], [(.box 121 (.fn 96 (.cons (.ptr 1 []) .nil))), (.box 43 (.sl (.int .i64) path)), (.row 45 (.st (.pair (.sl (.int .i64)) (.pair (.int .i64) (.pair (.int .i64) (.int .i64))))) y_6), (.sav (mkTs 37 [(11, (.sl (.st (.pair (.sl (.int .i64)) (.pair (.int .i64) (.pair (.int .i64) (.int .i64))))) x))]) fv27), (.sav (mkTs 42 [(0, (.row 2)), (1, (.fn 99 (.cons (.ptr 0 []) .nil)))]) fv38)]), by kernel_rfl, ?_⟩
            refine TS.seq ?_
            have hq : (True) ∧ (True) := ⟨trivial, trivial⟩
            refine TS.reg [] ?_ ?_
            · apply prop_of ?_ hq
              kernel_rfl
            refine XS.then ?_
            refine TS.seq ?_
            refine TS.seq ?_
            have hq : (True) ∧ ((True) ∧ ((True) ∧ (True))) := ⟨trivial, ⟨trivial, ⟨trivial, trivial⟩⟩⟩
            refine TS.reg [] ?_ ?_
            · apply prop_of ?_ hq
              kernel_rfl
            refine XS.then ?_
            refine TS.block ?_
            refine TS.reLoop [3, 4, 2, 0, 1] (mkMask 19 [0, 1, 7, 8]) (D := Int) (fun d => match d with | x_5 => (mkTs 19 [(0, (.row 2)), (1, (.fn 99 (.cons (.ptr 3 []) .nil))), (7, (.int .i64 ((y_6.length : Nat) : Int))), (8, (.int .i64 x_5))], [(.sav (mkTs 37 [(11, (.sl (.st (.pair (.sl (.int .i64)) (.pair (.int .i64) (.pair (.int .i64) (.int .i64))))) x))]) fv27), (.sav (mkTs 42 [(0, (.row 2)), (1, (.fn 99 (.cons (.ptr 3 []) .nil)))]) fv38), (.row 45 (.st (.pair (.sl (.int .i64)) (.pair (.int .i64) (.pair (.int .i64) (.int .i64))))) y_6), (.box 121 (.fn 96 (.cons (.ptr 4 []) .nil))), (.box 43 (.sl (.int .i64) path))])) (fun n' d => loopF (F38_l32 n path y_6 x) n' d = some r) n (0 : Int) h ?_ (fun d => loopF_zero _ d r) ?_
            · kernel_rfl
            · rintro n32 x_5 h
              replace h : (bif (decide (x_5 < ((y_6.length : Nat) : Int))) then (bif inb x_5 y_6.length then ((F96 n ((y_6.getD x_5.toNat (([] : List Int), ((0 : Int), ((0 : Int), (0 : Int))))).1) ((y_6.getD x_5.toNat (([] : List Int), ((0 : Int), ((0 : Int), (0 : Int))))).2.1) ((y_6.getD x_5.toNat (([] : List Int), ((0 : Int), ((0 : Int), (0 : Int))))).2.2.1) ((y_6.getD x_5.toNat (([] : List Int), ((0 : Int), ((0 : Int), (0 : Int))))).2.2.2) path).bind fun y_8 => (bif (!y_8) then (F38_j30 n path y_6 x x_5) else ((loopF (F38_l32 n path y_6 x) n32) (IntKind.wrap .i64 (x_5 + (1 : Int)))))) else none) else (F38_j30 n path y_6 x (-1 : Int))) = some r := h
              refine TS.seq ?_
              have hq : (True) ∧ (True) := ⟨trivial, trivial⟩
              refine TS.reg [] ?_ ?_
              · apply prop_of ?_ hq
                kernel_rfl
              refine XS.then ?_
              refine TS.seq ?_
              rcases bif_some h with ⟨c19, h⟩ | ⟨c20, h⟩
              · refine TS.cond (decide (x_5 < ((y_6.length : Nat) : Int))) ?_ (fun hcz => ?_) (fun hcz => by rw [c19] at hcz; cases hcz)
                · kernel_rfl
                refine TS.skip ?_
                refine XS.then ?_
                refine TS.seq ?_
                refine TS.block ?_
                refine TS.seq ?_
                have hq : (True) ∧ ((True) ∧ (True)) := ⟨trivial, ⟨trivial, trivial⟩⟩
                refine TS.reg [] ?_ ?_
                · apply prop_of ?_ hq
                  kernel_rfl
                refine XS.then ?_
                refine TS.seq ?_
                obtain ⟨t21, h⟩ := test_some h
                refine TS.opsOf ?_
                have hq : (True) ∧ ((True) ∧ ((True) ∧ ((inR x_5 y_6.length) ∧ ((x_5.toNat < y_6.length ∧ (True)) ∧ (True))))) := ⟨trivial, ⟨trivial, ⟨trivial, ⟨inb_ok t21, ⟨⟨inR_lt (inb_ok t21), trivial⟩, trivial⟩⟩⟩⟩⟩
                refine TOS.run 5 [] (by kernel_rfl) ?_ ?_
                · apply prop_of ?_ hq
                  kernel_rfl
                refine TOS.call 99 (mkMask 19 [0, 1, 5, 7, 8]) Try.func99 rfl ?_
                intro fv47
                refine ⟨(mkTs 8 [(0, (.st (.cons (.sl (.int .i64) (y_6.getD x_5.toNat (([] : List Int), ((0 : Int), ((0 : Int), (0 : Int))))).1) (.cons (.int .i64 (y_6.getD x_5.toNat (([] : List Int), ((0 : Int), ((0 : Int), (0 : Int))))).2.1) (.cons (.int .i64 (y_6.getD x_5.toNat (([] : List Int), ((0 : Int), ((0 : Int), (0 : Int))))).2.2.1) (.int .i64 (y_6.getD x_5.toNat (([] : List Int), ((0 : Int), ((0 : Int), (0 : Int))))).2.2.2)))))), (1, (.ptr 3 []))], [(.sav (mkTs 37 [(11, (.sl (.st (.pair (.sl (.int .i64)) (.pair (.int .i64) (.pair (.int .i64) (.int .i64))))) x))]) fv27), (.sav (mkTs 42 [(0, (.row 2)), (1, (.fn 99 (.cons (.ptr 3 []) .nil)))]) fv38), (.row 45 (.st (.pair (.sl (.int .i64)) (.pair (.int .i64) (.pair (.int .i64) (.int .i64))))) y_6), (.box 121 (.fn 96 (.cons (.ptr 4 []) .nil))), (.box 43 (.sl (.int .i64) path)), (.sav (mkTs 19 [(0, (.row 2)), (1, (.fn 99 (.cons (.ptr 3 []) .nil))), (5, (.int .i64 x_5)), (7, (.int .i64 ((y_6.length : Nat) : Int))), (8, (.int .i64 x_5))]) fv47)]), by kernel_rfl, ?_⟩
                refine TS.seq ?_
                have hq : (True) ∧ ((True) ∧ (True)) := ⟨trivial, ⟨trivial, trivial⟩⟩
                refine TS.reg [] ?_ ?_
                · apply prop_of ?_ hq
                  kernel_rfl
                refine XS.then ?_
                refine TS.seq ?_
                obtain ⟨y_8, hx22, h⟩ := bind_some' h
                have hq : (True) ∧ ((True) ∧ (((((True) ∧ ((True) ∧ ((True) ∧ (True)))) ∧ ((True) ∧ (True))) ∧ PureC Try.prog 96 [(.st (.cons (.sl (.int .i64) (y_6.getD x_5.toNat (([] : List Int), ((0 : Int), ((0 : Int), (0 : Int))))).1) (.cons (.int .i64 (y_6.getD x_5.toNat (([] : List Int), ((0 : Int), ((0 : Int), (0 : Int))))).2.1) (.cons (.int .i64 (y_6.getD x_5.toNat (([] : List Int), ((0 : Int), ((0 : Int), (0 : Int))))).2.2.1) (.int .i64 (y_6.getD x_5.toNat (([] : List Int), ((0 : Int), ((0 : Int), (0 : Int))))).2.2.2))))), (.pv (.sl (.int .i64) path))] (.bool y_8) []) ∧ ((True) ∧ ((True) ∧ (True))))) := ⟨trivial, ⟨trivial, ⟨⟨⟨⟨trivial, ⟨trivial, ⟨trivial, trivial⟩⟩⟩, ⟨trivial, trivial⟩⟩, F96_ok n ((y_6.getD x_5.toNat (([] : List Int), ((0 : Int), ((0 : Int), (0 : Int))))).1) ((y_6.getD x_5.toNat (([] : List Int), ((0 : Int), ((0 : Int), (0 : Int))))).2.1) ((y_6.getD x_5.toNat (([] : List Int), ((0 : Int), ((0 : Int), (0 : Int))))).2.2.1) ((y_6.getD x_5.toNat (([] : List Int), ((0 : Int), ((0 : Int), (0 : Int))))).2.2.2) path y_8 hx22⟩, ⟨trivial, ⟨trivial, trivial⟩⟩⟩⟩⟩
                refine TS.reg [.none, .none, (.call (.bool y_8) [])] ?_ ?_
                · apply prop_of ?_ hq
                  kernel_rfl
                refine XS.then ?_
                refine TS.ret ?_
                refine XS.backR 5 (mkTs 19 [(0, (.row 2)), (1, (.fn 99 (.cons (.ptr 3 []) .nil))), (5, (.int .i64 x_5)), (7, (.int .i64 ((y_6.length : Nat) : Int))), (8, (.int .i64 x_5))]) (mkTs 19 [(0, (.row 2)), (1, (.fn 99 (.cons (.ptr 3 []) .nil))), (5, (.int .i64 x_5)), (7, (.int .i64 ((y_6.length : Nat) : Int))), (8, (.int .i64 x_5)), (16, (.bool (!y_8)))], [(.sav (mkTs 37 [(11, (.sl (.st (.pair (.sl (.int .i64)) (.pair (.int .i64) (.pair (.int .i64) (.int .i64))))) x))]) fv27), (.sav (mkTs 42 [(0, (.row 2)), (1, (.fn 99 (.cons (.ptr 3 []) .nil)))]) fv38), (.row 45 (.st (.pair (.sl (.int .i64)) (.pair (.int .i64) (.pair (.int .i64) (.int .i64))))) y_6), (.box 121 (.fn 96 (.cons (.ptr 4 []) .nil))), (.box 43 (.sl (.int .i64) path)), .dead, (.box 45 (.st (.cons (.sl (.int .i64) (y_6.getD x_5.toNat (([] : List Int), ((0 : Int), ((0 : Int), (0 : Int))))).1) (.cons (.int .i64 (y_6.getD x_5.toNat (([] : List Int), ((0 : Int), ((0 : Int), (0 : Int))))).2.1) (.cons (.int .i64 (y_6.getD x_5.toNat (([] : List Int), ((0 : Int), ((0 : Int), (0 : Int))))).2.2.1) (.int .i64 (y_6.getD x_5.toNat (([] : List Int), ((0 : Int), ((0 : Int), (0 : Int))))).2.2.2))))))]) ((True) ∧ (True)) (by kernel_rfl) (by kernel_rfl) ⟨trivial, trivial⟩ ?_
                refine KS.opsOf ?_
                refine TOS.nil (by kernel_rfl) ?_
                refine XS.then ?_
                rcases bif_some h with ⟨c23, h⟩ | ⟨c24, h⟩
                · refine TS.cond (!y_8) ?_ (fun hcz => ?_) (fun hcz => by rw [c23] at hcz; cases hcz)
                  · kernel_rfl
                  refine TS.seq ?_
                  have hq : (True) ∧ ((True) ∧ (True)) := ⟨trivial, ⟨trivial, trivial⟩⟩
                  refine TS.reg [] ?_ ?_
                  · apply prop_of ?_ hq
                    kernel_rfl
                  refine XS.then ?_
                  refine TS.ret ?_
                  refine XS.blockRet ?_
                  refine XS.passR ?_
                  refine XS.passR ?_
                  refine XS.blockRet ?_
                  refine XS.passR ?_
                  refine XS.backR 1 (mkTs 42 [(0, (.row 2)), (1, (.fn 99 (.cons (.ptr 3 []) .nil)))]) (mkTs 42 [(0, (.row 2)), (1, (.fn 99 (.cons (.ptr 3 []) .nil))), (10, (.int .i64 x_5))], [(.sav (mkTs 37 [(11, (.sl (.st (.pair (.sl (.int .i64)) (.pair (.int .i64) (.pair (.int .i64) (.int .i64))))) x))]) fv27), .dead, (.row 45 (.st (.pair (.sl (.int .i64)) (.pair (.int .i64) (.pair (.int .i64) (.int .i64))))) y_6), (.box 121 (.fn 96 (.cons (.ptr 4 []) .nil))), (.box 43 (.sl (.int .i64) path)), .dead, (.box 45 (.st (.cons (.sl (.int .i64) (y_6.getD x_5.toNat (([] : List Int), ((0 : Int), ((0 : Int), (0 : Int))))).1) (.cons (.int .i64 (y_6.getD x_5.toNat (([] : List Int), ((0 : Int), ((0 : Int), (0 : Int))))).2.1) (.cons (.int .i64 (y_6.getD x_5.toNat (([] : List Int), ((0 : Int), ((0 : Int), (0 : Int))))).2.2.1) (.int .i64 (y_6.getD x_5.toNat (([] : List Int), ((0 : Int), ((0 : Int), (0 : Int))))).2.2.2))))))]) ((True) ∧ (True)) (by kernel_rfl) (by kernel_rfl) ⟨trivial, trivial⟩ ?_
                  refine KS.ofX ?_
                  refine XS.reAny [0, 2, 3, 4] (mkMask 42 [0, 1, 10]) x_5 h ?_
                  kernel_rfl
                · refine TS.cond (!y_8) ?_ (fun hcz => by rw [c24] at hcz; cases hcz) (fun hcz => ?_)
                  · kernel_rfl
                  refine TS.skip ?_
                  refine XS.blockEnd ?_
                  refine XS.then ?_
                  have hq : (True) ∧ ((True) ∧ (True)) := ⟨trivial, ⟨trivial, trivial⟩⟩
                  refine TS.reg [] ?_ ?_
                  · apply prop_of ?_ hq
                    kernel_rfl
                  refine XS.reAny [0, 1, 2, 3, 4] (mkMask 19 [0, 1, 7, 8]) (IntKind.wrap .i64 (x_5 + (1 : Int))) h ?_
                  kernel_rfl
              · refine TS.cond (decide (x_5 < ((y_6.length : Nat) : Int))) ?_ (fun hcz => by rw [c20] at hcz; cases hcz) (fun hcz => ?_)
                · kernel_rfl
                refine TS.exit ?_
                refine XS.passE ?_
                refine XS.passE ?_
                refine XS.out ?_
                refine XS.then ?_
                refine TS.seq ?_
                have hq : (True) ∧ (True) := ⟨trivial, trivial⟩
                refine TS.reg [] ?_ ?_
                · apply prop_of ?_ hq
                  kernel_rfl
                refine XS.then ?_
                refine TS.ret ?_
                refine XS.backR 1 (mkTs 42 [(0, (.row 2)), (1, (.fn 99 (.cons (.ptr 3 []) .nil)))]) (mkTs 42 [(0, (.row 2)), (1, (.fn 99 (.cons (.ptr 3 []) .nil))), (10, (.int .i64 (-1 : Int)))], [(.sav (mkTs 37 [(11, (.sl (.st (.pair (.sl (.int .i64)) (.pair (.int .i64) (.pair (.int .i64) (.int .i64))))) x))]) fv27), .dead, (.row 45 (.st (.pair (.sl (.int .i64)) (.pair (.int .i64) (.pair (.int .i64) (.int .i64))))) y_6), (.box 121 (.fn 96 (.cons (.ptr 4 []) .nil))), (.box 43 (.sl (.int .i64) path))]) ((True) ∧ (True)) (by kernel_rfl) (by kernel_rfl) ⟨trivial, trivial⟩ ?_
                refine KS.ofX ?_
                refine XS.reAny [0, 2, 3, 4] (mkMask 42 [0, 1, 10]) (-1 : Int) h ?_
                kernel_rfl
      · intro fv25
        refine ⟨(mkTs 42 [(0, (.row 3)), (1, (.fn 96 (.cons (.ptr 0 []) .nil)))], [(.box 43 (.sl (.int .i64) path)), (.box 45 (.st (.cons (.sl (.int .i64) y_5.1) (.cons (.int .i64 y_5.2.1) (.cons (.int .i64 y_5.2.2.1) (.int .i64 y_5.2.2.2.1)))))), (.box 121 (.fn 96 (.cons (.ptr 0 []) .nil))), (.row 45 (.st (.pair (.sl (.int .i64)) (.pair (.int .i64) (.pair (.int .i64) (.int .i64))))) y_6), (.sav (mkTs 37 [(0, (.sl (.st (.pair (.sl (.int .i64)) (.pair (.int .i64) (.pair (.int .i64) (.int .i64))))) tree)), (10, (.ptr 2 []))]) fv25)]), by kernel_rfl, ?_⟩
        refine TS.seq ?_
        have hq : (True) ∧ (True) := ⟨trivial, trivial⟩
        refine TS.reg [] ?_ ?_
        · apply prop_of ?_ hq
          kernel_rfl
        refine XS.then ?_
        refine TS.seq ?_
        refine TS.opsOf ?_
        have hq : (True) ∧ ((True) ∧ (True)) := ⟨trivial, ⟨trivial, trivial⟩⟩
        refine TOS.run 2 [] (by kernel_rfl) ?_ ?_
        · apply prop_of ?_ hq
          kernel_rfl
        refine TOS.callJ (D := Int) (fun d => match d with | gone_2 => (mkTs 42 [(0, (.row 3)), (1, (.fn 96 (.cons (.ptr 2 []) .nil))), (10, (.int .i64 gone_2))], [(.sav (mkTs 37 [(0, (.sl (.st (.pair (.sl (.int .i64)) (.pair (.int .i64) (.pair (.int .i64) (.int .i64))))) tree)), (10, (.ptr 1 []))]) fv25), (.box 121 (.fn 96 (.cons (.ptr 2 []) .nil))), (.box 43 (.sl (.int .i64) path)), (.row 45 (.st (.pair (.sl (.int .i64)) (.pair (.int .i64) (.pair (.int .i64) (.int .i64))))) y_6)])) (fun d => F38_j34 n path y_6 d = some r) 68 (mkMask 42 [0, 1]) Try.func68 rfl ?_ ?_
        · rintro gone_2 h
          replace h : (bif (gone_2 == (-1 : Int)) then (F38_j23 n path y_6 y_6) else (loopF (F38_l35 n path y_6) n (gone_2, (IntKind.wrap .i64 (gone_2 + (1 : Int))), y_6))) = some r := h
          have hq : (True) ∧ (True) := ⟨trivial, trivial⟩
          refine TOS.run 1 [] (by kernel_rfl) ?_ ?_
          · apply prop_of ?_ hq
            kernel_rfl
          refine TOS.nil (by kernel_rfl) ?_
          refine XS.then ?_
          refine TS.seq ?_
          refine TS.seq ?_
          have hq : (True) ∧ ((True) ∧ (True)) := ⟨trivial, ⟨trivial, trivial⟩⟩
          refine TS.reg [] ?_ ?_
          · apply prop_of ?_ hq
            kernel_rfl
          refine XS.then ?_
          rcases bif_some h with ⟨c25, h⟩ | ⟨c26, h⟩
          · refine TS.cond (gone_2 == (-1 : Int)) ?_ (fun hcz => ?_) (fun hcz => by rw [c25] at hcz; cases hcz)
            · kernel_rfl
            refine TS.seq ?_
            have hq : (True) ∧ ((True) ∧ (True)) := ⟨trivial, ⟨trivial, trivial⟩⟩
            refine TS.reg [] ?_ ?_
            · apply prop_of ?_ hq
              kernel_rfl
            refine XS.then ?_
            refine TS.ret ?_
            refine XS.passR ?_
            refine XS.backR 0 (mkTs 37 [(0, (.sl (.st (.pair (.sl (.int .i64)) (.pair (.int .i64) (.pair (.int .i64) (.int .i64))))) tree)), (10, (.ptr 1 []))]) (mkTs 37 [(0, (.sl (.st (.pair (.sl (.int .i64)) (.pair (.int .i64) (.pair (.int .i64) (.int .i64))))) tree)), (10, (.ptr 1 [])), (30, (.row 3))], [.dead, (.box 121 (.fn 96 (.cons (.ptr 2 []) .nil))), (.box 43 (.sl (.int .i64) path)), (.row 45 (.st (.pair (.sl (.int .i64)) (.pair (.int .i64) (.pair (.int .i64) (.int .i64))))) y_6)]) ((True) ∧ (True)) (by kernel_rfl) (by kernel_rfl) ⟨trivial, trivial⟩ ?_
            refine KS.ofX ?_
            refine XS.wk (.frz 3) ?_
            refine XS.reAny [1, 2] (mkMask 37 [0, 10, 30]) y_6 h ?_
            kernel_rfl
          · refine TS.cond (gone_2 == (-1 : Int)) ?_ (fun hcz => by rw [c26] at hcz; cases hcz) (fun hcz => ?_)
            · kernel_rfl
            refine TS.skip ?_
            refine XS.then ?_
            refine TS.seq ?_
            refine TS.seq ?_
            have hq : (True) ∧ ((True) ∧ ((True) ∧ (True))) := ⟨trivial, ⟨trivial, ⟨trivial, trivial⟩⟩⟩
            refine TS.reg [] ?_ ?_
            · apply prop_of ?_ hq
              kernel_rfl
            refine XS.then ?_
            refine TS.block ?_
            refine TS.reLoop [0, 1, 2, 3] (mkMask 42 [0, 1, 5, 6]) (D := Int × Int × (List ((List Int) × Int × Int × Int))) (fun d => match d with | (x_6, x_7, m3) => (mkTs 42 [(0, (.row 3)), (1, (.fn 96 (.cons (.ptr 2 []) .nil))), (5, (.int .i64 x_6)), (6, (.int .i64 x_7))], [(.sav (mkTs 37 [(0, (.sl (.st (.pair (.sl (.int .i64)) (.pair (.int .i64) (.pair (.int .i64) (.int .i64))))) tree)), (10, (.ptr 1 []))]) fv25), (.box 121 (.fn 96 (.cons (.ptr 2 []) .nil))), (.box 43 (.sl (.int .i64) path)), (.row 45 (.st (.pair (.sl (.int .i64)) (.pair (.int .i64) (.pair (.int .i64) (.int .i64))))) m3)])) (fun n' d => loopF (F38_l35 n path y_6) n' d = some r) n (gone_2, (IntKind.wrap .i64 (gone_2 + (1 : Int))), y_6) h ?_ (fun d => loopF_zero _ d r) ?_
            · kernel_rfl
            · rintro n35 ⟨x_6, x_7, m3⟩ h
              replace h : (bif (decide (x_7 < ((m3.length : Nat) : Int))) then (bif inb x_7 m3.length then ((F96 n ((m3.getD x_7.toNat (([] : List Int), ((0 : Int), ((0 : Int), (0 : Int))))).1) ((m3.getD x_7.toNat (([] : List Int), ((0 : Int), ((0 : Int), (0 : Int))))).2.1) ((m3.getD x_7.toNat (([] : List Int), ((0 : Int), ((0 : Int), (0 : Int))))).2.2.1) ((m3.getD x_7.toNat (([] : List Int), ((0 : Int), ((0 : Int), (0 : Int))))).2.2.2) path).bind fun y_9 => (bif (!y_9) then (bif inb x_6 m3.length then ((loopF (F38_l35 n path y_6) n35) ((IntKind.wrap .i64 (x_6 + (1 : Int))), (IntKind.wrap .i64 (x_7 + (1 : Int))), (m3.set x_6.toNat ((m3.getD x_7.toNat (([] : List Int), ((0 : Int), ((0 : Int), (0 : Int))))).1, ((m3.getD x_7.toNat (([] : List Int), ((0 : Int), ((0 : Int), (0 : Int))))).2.1, ((m3.getD x_7.toNat (([] : List Int), ((0 : Int), ((0 : Int), (0 : Int))))).2.2.1, (m3.getD x_7.toNat (([] : List Int), ((0 : Int), ((0 : Int), (0 : Int))))).2.2.2)))))) else none) else ((loopF (F38_l35 n path y_6) n35) (x_6, (IntKind.wrap .i64 (x_7 + (1 : Int))), m3)))) else none) else (bif subB m3.length (some x_6) none then (bif subB ((splice m3 x_6.toNat (List.replicate (m3.length - x_6.toNat) (([] : List Int), ((0 : Int), ((0 : Int), (0 : Int)))))).length) none (some x_6) then (F38_j23 n path y_6 (((splice m3 x_6.toNat (List.replicate (m3.length - x_6.toNat) (([] : List Int), ((0 : Int), ((0 : Int), (0 : Int)))))).take (0 + x_6.toNat)).drop 0)) else none) else none)) = some r := h
              refine TS.seq ?_
              refine TS.seq ?_
              have hq : (True) ∧ ((True) ∧ ((True) ∧ ((True) ∧ (True)))) := ⟨trivial, ⟨trivial, ⟨trivial, ⟨trivial, trivial⟩⟩⟩⟩
              refine TS.reg [] ?_ ?_
              · apply prop_of ?_ hq
                kernel_rfl
              refine XS.then ?_
              rcases bif_some h with ⟨c27, h⟩ | ⟨c28, h⟩
              · refine TS.cond (decide (x_7 < ((m3.length : Nat) : Int))) ?_ (fun hcz => ?_) (fun hcz => by rw [c27] at hcz; cases hcz)
                · kernel_rfl
                refine TS.skip ?_
                refine XS.then ?_
                refine TS.seq ?_
                refine TS.block ?_
                refine TS.seq ?_
                obtain ⟨t29, h⟩ := test_some h
                have hq : (True) ∧ ((True) ∧ ((inR x_7 m3.length) ∧ ((x_7.toNat < m3.length ∧ (True)) ∧ ((True) ∧ ((True) ∧ (True)))))) := ⟨trivial, ⟨trivial, ⟨inb_ok t29, ⟨⟨inR_lt (inb_ok t29), trivial⟩, ⟨trivial, ⟨trivial, trivial⟩⟩⟩⟩⟩⟩
                refine TS.reg [] ?_ ?_
                · apply prop_of ?_ hq
                  kernel_rfl
                refine XS.then ?_
                refine TS.seq ?_
                obtain ⟨y_9, hx30, h⟩ := bind_some' h
                have hq : (True) ∧ ((True) ∧ (((((True) ∧ ((True) ∧ ((True) ∧ (True)))) ∧ ((True) ∧ (True))) ∧ PureC Try.prog 96 [(.st (.cons (.sl (.int .i64) (m3.getD x_7.toNat (([] : List Int), ((0 : Int), ((0 : Int), (0 : Int))))).1) (.cons (.int .i64 (m3.getD x_7.toNat (([] : List Int), ((0 : Int), ((0 : Int), (0 : Int))))).2.1) (.cons (.int .i64 (m3.getD x_7.toNat (([] : List Int), ((0 : Int), ((0 : Int), (0 : Int))))).2.2.1) (.int .i64 (m3.getD x_7.toNat (([] : List Int), ((0 : Int), ((0 : Int), (0 : Int))))).2.2.2))))), (.pv (.sl (.int .i64) path))] (.bool y_9) []) ∧ ((True) ∧ (True)))) := ⟨trivial, ⟨trivial, ⟨⟨⟨⟨trivial, ⟨trivial, ⟨trivial, trivial⟩⟩⟩, ⟨trivial, trivial⟩⟩, F96_ok n ((m3.getD x_7.toNat (([] : List Int), ((0 : Int), ((0 : Int), (0 : Int))))).1) ((m3.getD x_7.toNat (([] : List Int), ((0 : Int), ((0 : Int), (0 : Int))))).2.1) ((m3.getD x_7.toNat (([] : List Int), ((0 : Int), ((0 : Int), (0 : Int))))).2.2.1) ((m3.getD x_7.toNat (([] : List Int), ((0 : Int), ((0 : Int), (0 : Int))))).2.2.2) path y_9 hx30⟩, ⟨trivial, trivial⟩⟩⟩⟩
                refine TS.reg [.none, .none, (.call (.bool y_9) [])] ?_ ?_
                · apply prop_of ?_ hq
                  kernel_rfl
                refine XS.then ?_
                rcases bif_some h with ⟨c31, h⟩ | ⟨c32, h⟩
                · refine TS.cond (!y_9) ?_ (fun hcz => ?_) (fun hcz => by rw [c31] at hcz; cases hcz)
                  · kernel_rfl
                  refine TS.seq ?_
                  obtain ⟨t33, h⟩ := test_some h
                  have hq : (True) ∧ ((True) ∧ ((True) ∧ ((inR x_6 m3.length) ∧ (((x_6.toNat < m3.length ∧ (True)) ∧ m3.length = m3.length) ∧ (True))))) := ⟨trivial, ⟨trivial, ⟨trivial, ⟨inb_ok t33, ⟨⟨⟨inR_lt (inb_ok t33), trivial⟩, rfl⟩, trivial⟩⟩⟩⟩⟩
                  refine TS.reg [] ?_ ?_
                  · apply prop_of ?_ hq
                    kernel_rfl
                  refine XS.then ?_
                  have hq : (True) ∧ ((True) ∧ ((True) ∧ (True))) := ⟨trivial, ⟨trivial, ⟨trivial, trivial⟩⟩⟩
                  refine TS.reg [] ?_ ?_
                  · apply prop_of ?_ hq
                    kernel_rfl
                  refine XS.blockEnd ?_
                  refine XS.then ?_
                  have hq : (True) ∧ ((True) ∧ ((True) ∧ (True))) := ⟨trivial, ⟨trivial, ⟨trivial, trivial⟩⟩⟩
                  refine TS.reg [] ?_ ?_
                  · apply prop_of ?_ hq
                    kernel_rfl
                  refine XS.reAny [0, 1, 2, 3] (mkMask 42 [0, 1, 5, 6]) ((IntKind.wrap .i64 (x_6 + (1 : Int))), (IntKind.wrap .i64 (x_7 + (1 : Int))), (m3.set x_6.toNat ((m3.getD x_7.toNat (([] : List Int), ((0 : Int), ((0 : Int), (0 : Int))))).1, ((m3.getD x_7.toNat (([] : List Int), ((0 : Int), ((0 : Int), (0 : Int))))).2.1, ((m3.getD x_7.toNat (([] : List Int), ((0 : Int), ((0 : Int), (0 : Int))))).2.2.1, (m3.getD x_7.toNat (([] : List Int), ((0 : Int), ((0 : Int), (0 : Int))))).2.2.2))))) h ?_
                  kernel_rfl
                · refine TS.cond (!y_9) ?_ (fun hcz => by rw [c32] at hcz; cases hcz) (fun hcz => ?_)
                  · kernel_rfl
                  refine TS.skip ?_
                  refine XS.blockEnd ?_
                  refine XS.then ?_
                  have hq : (True) ∧ ((True) ∧ ((True) ∧ (True))) := ⟨trivial, ⟨trivial, ⟨trivial, trivial⟩⟩⟩
                  refine TS.reg [] ?_ ?_
                  · apply prop_of ?_ hq
                    kernel_rfl
                  refine XS.reAny [0, 1, 2, 3] (mkMask 42 [0, 1, 5, 6]) (x_6, (IntKind.wrap .i64 (x_7 + (1 : Int))), m3) h ?_
                  kernel_rfl
              · refine TS.cond (decide (x_7 < ((m3.length : Nat) : Int))) ?_ (fun hcz => by rw [c28] at hcz; cases hcz) (fun hcz => ?_)
                · kernel_rfl
                refine TS.exit ?_
                refine XS.passE ?_
                refine XS.passE ?_
                refine XS.out ?_
                refine XS.then ?_
                refine TS.seq ?_
                obtain ⟨t34, h⟩ := test_some h
                have hq : (True) ∧ ((True) ∧ ((subC m3.length (some x_6) none) ∧ ((True) ∧ (True)))) := ⟨trivial, ⟨trivial, ⟨subB_ok t34, ⟨trivial, trivial⟩⟩⟩⟩
                refine TS.reg [] ?_ ?_
                · apply prop_of ?_ hq
                  kernel_rfl
                refine XS.then ?_
                refine TS.seq ?_
                obtain ⟨t35, h⟩ := test_some h
                have hq : (True) ∧ ((True) ∧ ((subC ((splice m3 x_6.toNat (List.replicate (m3.length - x_6.toNat) (([] : List Int), ((0 : Int), ((0 : Int), (0 : Int)))))).length) none (some x_6)) ∧ ((True) ∧ (True)))) := ⟨trivial, ⟨trivial, ⟨subB_ok t35, ⟨trivial, trivial⟩⟩⟩⟩
                refine TS.reg [] ?_ ?_
                · apply prop_of ?_ hq
                  kernel_rfl
                refine XS.then ?_
                refine TS.ret ?_
                refine XS.backR 0 (mkTs 37 [(0, (.sl (.st (.pair (.sl (.int .i64)) (.pair (.int .i64) (.pair (.int .i64) (.int .i64))))) tree)), (10, (.ptr 1 []))]) (mkTs 37 [(0, (.sl (.st (.pair (.sl (.int .i64)) (.pair (.int .i64) (.pair (.int .i64) (.int .i64))))) tree)), (10, (.ptr 1 [])), (30, (.sub 3 4 0 x_6.toNat))], [.dead, (.box 121 (.fn 96 (.cons (.ptr 2 []) .nil))), (.box 43 (.sl (.int .i64) path)), (.row 45 (.st (.pair (.sl (.int .i64)) (.pair (.int .i64) (.pair (.int .i64) (.int .i64))))) (splice m3 x_6.toNat (List.replicate (m3.length - x_6.toNat) (([] : List Int), ((0 : Int), ((0 : Int), (0 : Int)))))))]) ((True) ∧ (True)) (by kernel_rfl) (by kernel_rfl) ⟨trivial, trivial⟩ ?_
                refine KS.ofX ?_
                refine XS.wk (.frz 3) ?_
                refine XS.reAny [1, 2] (mkMask 37 [0, 10, 30]) (((splice m3 x_6.toNat (List.replicate (m3.length - x_6.toNat) (([] : List Int), ((0 : Int), ((0 : Int), (0 : Int)))))).take (0 + x_6.toNat)).drop 0) h ?_
                kernel_rfl
        · intro fv48
          refine ⟨(mkTs 19 [(0, (.row 3)), (1, (.fn 96 (.cons (.ptr 0 []) .nil)))], [(.box 43 (.sl (.int .i64) path)), (.box 45 (.st (.cons (.sl (.int .i64) y_5.1) (.cons (.int .i64 y_5.2.1) (.cons (.int .i64 y_5.2.2.1) (.int .i64 y_5.2.2.2.1)))))), (.box 121 (.fn 96 (.cons (.ptr 0 []) .nil))), (.row 45 (.st (.pair (.sl (.int .i64)) (.pair (.int .i64) (.pair (.int .i64) (.int .i64))))) y_6), (.sav (mkTs 37 [(0, (.sl (.st (.pair (.sl (.int .i64)) (.pair (.int .i64) (.pair (.int .i64) (.int .i64))))) tree)), (10, (.ptr 2 []))]) fv25), (.sav (mkTs 42 [(0, (.row 3)), (1, (.fn 96 (.cons (.ptr 0 []) .nil)))]) fv48)]), by kernel_rfl, ?_⟩
          refine TS.seq ?_
          have hq : (True) ∧ (True) := ⟨trivial, trivial⟩
          refine TS.reg [] ?_ ?_
          · apply prop_of ?_ hq
            kernel_rfl
          refine XS.then ?_
          refine TS.seq ?_
          refine TS.seq ?_
          have hq : (True) ∧ ((True) ∧ ((True) ∧ (True))) := ⟨trivial, ⟨trivial, ⟨trivial, trivial⟩⟩⟩
          refine TS.reg [] ?_ ?_
          · apply prop_of ?_ hq
            kernel_rfl
          refine XS.then ?_
          refine TS.block ?_
          refine TS.reLoop [4, 5, 2, 0, 3] (mkMask 19 [0, 1, 7, 8]) (D := Int) (fun d => match d with | x_8 => (mkTs 19 [(0, (.row 4)), (1, (.fn 96 (.cons (.ptr 3 []) .nil))), (7, (.int .i64 ((y_6.length : Nat) : Int))), (8, (.int .i64 x_8))], [(.sav (mkTs 37 [(0, (.sl (.st (.pair (.sl (.int .i64)) (.pair (.int .i64) (.pair (.int .i64) (.int .i64))))) tree)), (10, (.ptr 2 []))]) fv25), (.sav (mkTs 42 [(0, (.row 4)), (1, (.fn 96 (.cons (.ptr 3 []) .nil)))]) fv48), (.box 121 (.fn 96 (.cons (.ptr 3 []) .nil))), (.box 43 (.sl (.int .i64) path)), (.row 45 (.st (.pair (.sl (.int .i64)) (.pair (.int .i64) (.pair (.int .i64) (.int .i64))))) y_6)])) (fun n' d => loopF (F38_l36 n path y_6) n' d = some r) n (0 : Int) h ?_ (fun d => loopF_zero _ d r) ?_
          · kernel_rfl
          · rintro n36 x_8 h
            replace h : (bif (decide (x_8 < ((y_6.length : Nat) : Int))) then (bif inb x_8 y_6.length then ((F96 n ((y_6.getD x_8.toNat (([] : List Int), ((0 : Int), ((0 : Int), (0 : Int))))).1) ((y_6.getD x_8.toNat (([] : List Int), ((0 : Int), ((0 : Int), (0 : Int))))).2.1) ((y_6.getD x_8.toNat (([] : List Int), ((0 : Int), ((0 : Int), (0 : Int))))).2.2.1) ((y_6.getD x_8.toNat (([] : List Int), ((0 : Int), ((0 : Int), (0 : Int))))).2.2.2) path).bind fun y_10 => (bif y_10 then (F38_j34 n path y_6 x_8) else ((loopF (F38_l36 n path y_6) n36) (IntKind.wrap .i64 (x_8 + (1 : Int)))))) else none) else (F38_j34 n path y_6 (-1 : Int))) = some r := h
            refine TS.seq ?_
            have hq : (True) ∧ (True) := ⟨trivial, trivial⟩
            refine TS.reg [] ?_ ?_
            · apply prop_of ?_ hq
              kernel_rfl
            refine XS.then ?_
            refine TS.seq ?_
            rcases bif_some h with ⟨c36, h⟩ | ⟨c37, h⟩
            · refine TS.cond (decide (x_8 < ((y_6.length : Nat) : Int))) ?_ (fun hcz => ?_) (fun hcz => by rw [c36] at hcz; cases hcz)
              · kernel_rfl
              refine TS.skip ?_
              refine XS.then ?_
              refine TS.seq ?_
              refine TS.block ?_
              refine TS.seq ?_
              have hq : (True) ∧ ((True) ∧ (True)) := ⟨trivial, ⟨trivial, trivial⟩⟩
              refine TS.reg [] ?_ ?_
              · apply prop_of ?_ hq
                kernel_rfl
              refine XS.then ?_
              refine TS.seq ?_
              obtain ⟨t38, h⟩ := test_some h
              obtain ⟨y_10, hx39, h⟩ := bind_some' h
              have hq : (True) ∧ ((True) ∧ ((True) ∧ ((inR x_8 y_6.length) ∧ ((x_8.toNat < y_6.length ∧ (True)) ∧ (((((True) ∧ ((True) ∧ ((True) ∧ (True)))) ∧ ((True) ∧ (True))) ∧ PureC Try.prog 96 [(.st (.cons (.sl (.int .i64) (y_6.getD x_8.toNat (([] : List Int), ((0 : Int), ((0 : Int), (0 : Int))))).1) (.cons (.int .i64 (y_6.getD x_8.toNat (([] : List Int), ((0 : Int), ((0 : Int), (0 : Int))))).2.1) (.cons (.int .i64 (y_6.getD x_8.toNat (([] : List Int), ((0 : Int), ((0 : Int), (0 : Int))))).2.2.1) (.int .i64 (y_6.getD x_8.toNat (([] : List Int), ((0 : Int), ((0 : Int), (0 : Int))))).2.2.2))))), (.pv (.sl (.int .i64) path))] (.bool y_10) []) ∧ (True)))))) := ⟨trivial, ⟨trivial, ⟨trivial, ⟨inb_ok t38, ⟨⟨inR_lt (inb_ok t38), trivial⟩, ⟨⟨⟨⟨trivial, ⟨trivial, ⟨trivial, trivial⟩⟩⟩, ⟨trivial, trivial⟩⟩, F96_ok n ((y_6.getD x_8.toNat (([] : List Int), ((0 : Int), ((0 : Int), (0 : Int))))).1) ((y_6.getD x_8.toNat (([] : List Int), ((0 : Int), ((0 : Int), (0 : Int))))).2.1) ((y_6.getD x_8.toNat (([] : List Int), ((0 : Int), ((0 : Int), (0 : Int))))).2.2.1) ((y_6.getD x_8.toNat (([] : List Int), ((0 : Int), ((0 : Int), (0 : Int))))).2.2.2) path y_10 hx39⟩, trivial⟩⟩⟩⟩⟩⟩
              refine TS.reg [.none, .none, .none, .none, .none, (.call (.bool y_10) [])] ?_ ?_
              · apply prop_of ?_ hq
                kernel_rfl
              refine XS.then ?_
              rcases bif_some h with ⟨c40, h⟩ | ⟨c41, h⟩
              · refine TS.cond y_10 ?_ (fun hcz => ?_) (fun hcz => by rw [c40] at hcz; cases hcz)
                · kernel_rfl
                refine TS.seq ?_
                have hq : (True) ∧ ((True) ∧ (True)) := ⟨trivial, ⟨trivial, trivial⟩⟩
                refine TS.reg [] ?_ ?_
                · apply prop_of ?_ hq
                  kernel_rfl
                refine XS.then ?_
                refine TS.ret ?_
                refine XS.blockRet ?_
                refine XS.passR ?_
                refine XS.passR ?_
                refine XS.blockRet ?_
                refine XS.passR ?_
                refine XS.backR 1 (mkTs 42 [(0, (.row 4)), (1, (.fn 96 (.cons (.ptr 3 []) .nil)))]) (mkTs 42 [(0, (.row 4)), (1, (.fn 96 (.cons (.ptr 3 []) .nil))), (10, (.int .i64 x_8))], [(.sav (mkTs 37 [(0, (.sl (.st (.pair (.sl (.int .i64)) (.pair (.int .i64) (.pair (.int .i64) (.int .i64))))) tree)), (10, (.ptr 2 []))]) fv25), .dead, (.box 121 (.fn 96 (.cons (.ptr 3 []) .nil))), (.box 43 (.sl (.int .i64) path)), (.row 45 (.st (.pair (.sl (.int .i64)) (.pair (.int .i64) (.pair (.int .i64) (.int .i64))))) y_6)]) ((True) ∧ (True)) (by kernel_rfl) (by kernel_rfl) ⟨trivial, trivial⟩ ?_
                refine KS.ofX ?_
                refine XS.reAny [0, 2, 3, 4] (mkMask 42 [0, 1, 10]) x_8 h ?_
                kernel_rfl
              · refine TS.cond y_10 ?_ (fun hcz => by rw [c41] at hcz; cases hcz) (fun hcz => ?_)
                · kernel_rfl
                refine TS.skip ?_
                refine XS.blockEnd ?_
                refine XS.then ?_
                have hq : (True) ∧ ((True) ∧ (True)) := ⟨trivial, ⟨trivial, trivial⟩⟩
                refine TS.reg [] ?_ ?_
                · apply prop_of ?_ hq
                  kernel_rfl
                refine XS.reAny [0, 1, 2, 3, 4] (mkMask 19 [0, 1, 7, 8]) (IntKind.wrap .i64 (x_8 + (1 : Int))) h ?_
                kernel_rfl
            · refine TS.cond (decide (x_8 < ((y_6.length : Nat) : Int))) ?_ (fun hcz => by rw [c37] at hcz; cases hcz) (fun hcz => ?_)
              · kernel_rfl
              refine TS.exit ?_
              refine XS.passE ?_
              refine XS.passE ?_
              refine XS.out ?_
              refine XS.then ?_
              refine TS.seq ?_
              have hq : (True) ∧ (True) := ⟨trivial, trivial⟩
              refine TS.reg [] ?_ ?_
              · apply prop_of ?_ hq
                kernel_rfl
              refine XS.then ?_
              refine TS.ret ?_
              refine XS.backR 1 (mkTs 42 [(0, (.row 4)), (1, (.fn 96 (.cons (.ptr 3 []) .nil)))]) (mkTs 42 [(0, (.row 4)), (1, (.fn 96 (.cons (.ptr 3 []) .nil))), (10, (.int .i64 (-1 : Int)))], [(.sav (mkTs 37 [(0, (.sl (.st (.pair (.sl (.int .i64)) (.pair (.int .i64) (.pair (.int .i64) (.int .i64))))) tree)), (10, (.ptr 2 []))]) fv25), .dead, (.box 121 (.fn 96 (.cons (.ptr 3 []) .nil))), (.box 43 (.sl (.int .i64) path)), (.row 45 (.st (.pair (.sl (.int .i64)) (.pair (.int .i64) (.pair (.int .i64) (.int .i64))))) y_6)]) ((True) ∧ (True)) (by kernel_rfl) (by kernel_rfl) ⟨trivial, trivial⟩ ?_
              refine KS.ofX ?_
              refine XS.reAny [0, 2, 3, 4] (mkMask 42 [0, 1, 10]) (-1 : Int) h ?_
              kernel_rfl

/-! plugtree/plugref.SameTree -/
def F39_l4 (n : Nat) (a : List ((List Int) × Int × Int × Int)) (b : List ((List Int) × Int × Int × Int)) (k39_4 : Int → Option Bool) : Int → Option Bool
  | x => (bif (decide (x < ((a.length : Nat) : Int))) then (bif inb x a.length then (bif inb x b.length then ((F26 n ((a.getD x.toNat (([] : List Int), ((0 : Int), ((0 : Int), (0 : Int))))).1) ((a.getD x.toNat (([] : List Int), ((0 : Int), ((0 : Int), (0 : Int))))).2.1) ((a.getD x.toNat (([] : List Int), ((0 : Int), ((0 : Int), (0 : Int))))).2.2.1) ((a.getD x.toNat (([] : List Int), ((0 : Int), ((0 : Int), (0 : Int))))).2.2.2) ((b.getD x.toNat (([] : List Int), ((0 : Int), ((0 : Int), (0 : Int))))).1) ((b.getD x.toNat (([] : List Int), ((0 : Int), ((0 : Int), (0 : Int))))).2.1) ((b.getD x.toNat (([] : List Int), ((0 : Int), ((0 : Int), (0 : Int))))).2.2.1) ((b.getD x.toNat (([] : List Int), ((0 : Int), ((0 : Int), (0 : Int))))).2.2.2)).bind fun y_2 => (bif (!y_2) then (some false) else (k39_4 (IntKind.wrap .i64 (x + (1 : Int)))))) else none) else none) else (some true))
def F39 (n : Nat) (a : List ((List Int) × Int × Int × Int)) (b : List ((List Int) × Int × Int × Int)) : Option Bool := (bif (((a.length : Nat) : Int) != ((b.length : Nat) : Int)) then (some false) else (loopF (F39_l4 n a b) n (0 : Int)))
theorem F39_ok (n : Nat) (a : List ((List Int) × Int × Int × Int)) (b : List ((List Int) × Int × Int × Int)) (r : Bool) (h : F39 n a b = some r) : PureC Try.prog 39 [(.sl (.st (.pair (.sl (.int .i64)) (.pair (.int .i64) (.pair (.int .i64) (.int .i64))))) a), (.sl (.st (.pair (.sl (.int .i64)) (.pair (.int .i64) (.pair (.int .i64) (.int .i64))))) b)] (.bool r) [] := by
  refine PureC.mkS Try.func39 rfl rfl ?_
  intro w0 fz0 hfz
  replace h : (bif (((a.length : Nat) : Int) != ((b.length : Nat) : Int)) then (some false) else (loopF (F39_l4 n a b) n (0 : Int))) = some r := h
  refine TS.seq ?_
  have hq : (True) ∧ (True) := ⟨trivial, trivial⟩
  refine TS.reg [] ?_ ?_
  · apply prop_of ?_ hq
    kernel_rfl
  refine XS.then ?_
  refine TS.seq ?_
  refine TS.opsOf ?_
  have hq : (True) ∧ ((True) ∧ (True)) := ⟨trivial, ⟨trivial, trivial⟩⟩
  refine TOS.run 2 [] (by kernel_rfl) ?_ ?_
  · apply prop_of ?_ hq
    kernel_rfl
  refine TOS.call 100 (mkMask 8 [4]) Try.func100 rfl ?_
  intro fv2
  refine ⟨(mkTs 32 [(0, (.sl (.st (.pair (.sl (.int .i64)) (.pair (.int .i64) (.pair (.int .i64) (.int .i64))))) a)), (1, (.sl (.st (.pair (.sl (.int .i64)) (.pair (.int .i64) (.pair (.int .i64) (.int .i64))))) b)), (2, (.fn 26 .nil))], [(.sav (mkTs 8 [(4, (.bool false))]) fv2)]), by kernel_rfl, ?_⟩
  refine TS.seq ?_
  have hq : (True) ∧ (True) := ⟨trivial, trivial⟩
  refine TS.reg [] ?_ ?_
  · apply prop_of ?_ hq
    kernel_rfl
  refine XS.then ?_
  refine TS.seq ?_
  refine TS.seq ?_
  have hq : (True) ∧ ((True) ∧ ((True) ∧ ((True) ∧ ((True) ∧ (True))))) := ⟨trivial, ⟨trivial, ⟨trivial, ⟨trivial, ⟨trivial, trivial⟩⟩⟩⟩⟩
  refine TS.reg [] ?_ ?_
  · apply prop_of ?_ hq
    kernel_rfl
  refine XS.then ?_
  rcases bif_some h with ⟨c1, h⟩ | ⟨c2, h⟩
  · refine TS.cond (((a.length : Nat) : Int) != ((b.length : Nat) : Int)) ?_ (fun hcz => ?_) (fun hcz => by rw [c1] at hcz; cases hcz)
    · kernel_rfl
    refine TS.seq ?_
    have hq : (True) ∧ (True) := ⟨trivial, trivial⟩
    refine TS.reg [] ?_ ?_
    · apply prop_of ?_ hq
      kernel_rfl
    refine XS.then ?_
    refine TS.ret ?_
    refine XS.passR ?_
    refine XS.backR 0 (mkTs 8 [(4, (.bool false))]) (mkTs 8 [(4, (.bool false)), (7, (.bool false))], [.dead]) ((True) ∧ (True)) (by kernel_rfl) (by kernel_rfl) ⟨trivial, trivial⟩ ?_
    refine KS.opsOf ?_
    have hq : (True) ∧ (True) := ⟨trivial, trivial⟩
    refine TOS.run 1 [] (by kernel_rfl) ?_ ?_
    · apply prop_of ?_ hq
      kernel_rfl
    refine TOS.nil (by kernel_rfl) ?_
    refine XS.then ?_
    refine TS.ret ?_
    obtain rfl : false = r := Option.some.inj h
    exact XS.fin [] ((True) ∧ (True)) (by kernel_rfl) ⟨trivial, trivial⟩
  · refine TS.cond (((a.length : Nat) : Int) != ((b.length : Nat) : Int)) ?_ (fun hcz => by rw [c2] at hcz; cases hcz) (fun hcz => ?_)
    · kernel_rfl
    refine TS.skip ?_
    refine XS.then ?_
    refine TS.seq ?_
    refine TS.seq ?_
    have hq : (True) ∧ ((True) ∧ ((True) ∧ (True))) := ⟨trivial, ⟨trivial, ⟨trivial, trivial⟩⟩⟩
    refine TS.reg [] ?_ ?_
    · apply prop_of ?_ hq
      kernel_rfl
    refine XS.then ?_
    refine TS.block ?_
    refine TS.reLoop [0] (mkMask 32 [1, 2, 15, 16, 17]) (D := Int) (fun d => match d with | x => (mkTs 32 [(1, (.sl (.st (.pair (.sl (.int .i64)) (.pair (.int .i64) (.pair (.int .i64) (.int .i64))))) b)), (2, (.fn 26 .nil)), (15, (.sl (.st (.pair (.sl (.int .i64)) (.pair (.int .i64) (.pair (.int .i64) (.int .i64))))) a)), (16, (.int .i64 ((a.length : Nat) : Int))), (17, (.int .i64 x))], [(.sav (mkTs 8 [(4, (.bool false))]) fv2)])) (fun n' d => loopF (F39_l4 n a b) n' d = some r) n (0 : Int) h ?_ (fun d => loopF_zero _ d r) ?_
    · kernel_rfl
    · rintro n4 x h
      replace h : (bif (decide (x < ((a.length : Nat) : Int))) then (bif inb x a.length then (bif inb x b.length then ((F26 n ((a.getD x.toNat (([] : List Int), ((0 : Int), ((0 : Int), (0 : Int))))).1) ((a.getD x.toNat (([] : List Int), ((0 : Int), ((0 : Int), (0 : Int))))).2.1) ((a.getD x.toNat (([] : List Int), ((0 : Int), ((0 : Int), (0 : Int))))).2.2.1) ((a.getD x.toNat (([] : List Int), ((0 : Int), ((0 : Int), (0 : Int))))).2.2.2) ((b.getD x.toNat (([] : List Int), ((0 : Int), ((0 : Int), (0 : Int))))).1) ((b.getD x.toNat (([] : List Int), ((0 : Int), ((0 : Int), (0 : Int))))).2.1) ((b.getD x.toNat (([] : List Int), ((0 : Int), ((0 : Int), (0 : Int))))).2.2.1) ((b.getD x.toNat (([] : List Int), ((0 : Int), ((0 : Int), (0 : Int))))).2.2.2)).bind fun y_2 => (bif (!y_2) then (some false) else ((loopF (F39_l4 n a b) n4) (IntKind.wrap .i64 (x + (1 : Int)))))) else none) else none) else (some true)) = some r := h
      refine TS.seq ?_
      have hq : (True) ∧ (True) := ⟨trivial, trivial⟩
      refine TS.reg [] ?_ ?_
      · apply prop_of ?_ hq
        kernel_rfl
      refine XS.then ?_
      refine TS.seq ?_
      rcases bif_some h with ⟨c3, h⟩ | ⟨c4, h⟩
      · refine TS.cond (decide (x < ((a.length : Nat) : Int))) ?_ (fun hcz => ?_) (fun hcz => by rw [c3] at hcz; cases hcz)
        · kernel_rfl
        refine TS.skip ?_
        refine XS.then ?_
        refine TS.seq ?_
        refine TS.block ?_
        refine TS.seq ?_
        obtain ⟨t5, h⟩ := test_some h
        have hq : (True) ∧ ((inR x a.length) ∧ ((True) ∧ ((True) ∧ ((True) ∧ ((True) ∧ (True)))))) := ⟨trivial, ⟨inb_ok t5, ⟨trivial, ⟨trivial, ⟨trivial, ⟨trivial, trivial⟩⟩⟩⟩⟩⟩
        refine TS.reg [] ?_ ?_
        · apply prop_of ?_ hq
          kernel_rfl
        refine XS.then ?_
        refine TS.seq ?_
        obtain ⟨t6, h⟩ := test_some h
        have hq : (True) ∧ ((True) ∧ ((inR x b.length) ∧ ((True) ∧ ((True) ∧ ((True) ∧ (True)))))) := ⟨trivial, ⟨trivial, ⟨inb_ok t6, ⟨trivial, ⟨trivial, ⟨trivial, trivial⟩⟩⟩⟩⟩⟩
        refine TS.reg [] ?_ ?_
        · apply prop_of ?_ hq
          kernel_rfl
        refine XS.then ?_
        refine TS.seq ?_
        obtain ⟨y_2, hx7, h⟩ := bind_some' h
        have hq : (True) ∧ ((True) ∧ ((True) ∧ ((PureC Try.prog 26 [(.st (.cons (.sl (.int .i64) (a.getD x.toNat (([] : List Int), ((0 : Int), ((0 : Int), (0 : Int))))).1) (.cons (.int .i64 (a.getD x.toNat (([] : List Int), ((0 : Int), ((0 : Int), (0 : Int))))).2.1) (.cons (.int .i64 (a.getD x.toNat (([] : List Int), ((0 : Int), ((0 : Int), (0 : Int))))).2.2.1) (.int .i64 (a.getD x.toNat (([] : List Int), ((0 : Int), ((0 : Int), (0 : Int))))).2.2.2))))), (.st (.cons (.sl (.int .i64) (b.getD x.toNat (([] : List Int), ((0 : Int), ((0 : Int), (0 : Int))))).1) (.cons (.int .i64 (b.getD x.toNat (([] : List Int), ((0 : Int), ((0 : Int), (0 : Int))))).2.1) (.cons (.int .i64 (b.getD x.toNat (([] : List Int), ((0 : Int), ((0 : Int), (0 : Int))))).2.2.1) (.int .i64 (b.getD x.toNat (([] : List Int), ((0 : Int), ((0 : Int), (0 : Int))))).2.2.2)))))] (.bool y_2) []) ∧ ((True) ∧ (True))))) := ⟨trivial, ⟨trivial, ⟨trivial, ⟨F26_ok n ((a.getD x.toNat (([] : List Int), ((0 : Int), ((0 : Int), (0 : Int))))).1) ((a.getD x.toNat (([] : List Int), ((0 : Int), ((0 : Int), (0 : Int))))).2.1) ((a.getD x.toNat (([] : List Int), ((0 : Int), ((0 : Int), (0 : Int))))).2.2.1) ((a.getD x.toNat (([] : List Int), ((0 : Int), ((0 : Int), (0 : Int))))).2.2.2) ((b.getD x.toNat (([] : List Int), ((0 : Int), ((0 : Int), (0 : Int))))).1) ((b.getD x.toNat (([] : List Int), ((0 : Int), ((0 : Int), (0 : Int))))).2.1) ((b.getD x.toNat (([] : List Int), ((0 : Int), ((0 : Int), (0 : Int))))).2.2.1) ((b.getD x.toNat (([] : List Int), ((0 : Int), ((0 : Int), (0 : Int))))).2.2.2) y_2 hx7, ⟨trivial, trivial⟩⟩⟩⟩⟩
        refine TS.reg [.none, .none, .none, (.call (.bool y_2) [])] ?_ ?_
        · apply prop_of ?_ hq
          kernel_rfl
        refine XS.then ?_
        rcases bif_some h with ⟨c8, h⟩ | ⟨c9, h⟩
        · refine TS.cond (!y_2) ?_ (fun hcz => ?_) (fun hcz => by rw [c8] at hcz; cases hcz)
          · kernel_rfl
          refine TS.seq ?_
          have hq : (True) ∧ (True) := ⟨trivial, trivial⟩
          refine TS.reg [] ?_ ?_
          · apply prop_of ?_ hq
            kernel_rfl
          refine XS.then ?_
          refine TS.ret ?_
          refine XS.blockRet ?_
          refine XS.passR ?_
          refine XS.passR ?_
          refine XS.blockRet ?_
          refine XS.passR ?_
          refine XS.backR 0 (mkTs 8 [(4, (.bool false))]) (mkTs 8 [(4, (.bool false)), (7, (.bool false))], [.dead, (.box 45 (.st (.cons (.sl (.int .i64) (a.getD x.toNat (([] : List Int), ((0 : Int), ((0 : Int), (0 : Int))))).1) (.cons (.int .i64 (a.getD x.toNat (([] : List Int), ((0 : Int), ((0 : Int), (0 : Int))))).2.1) (.cons (.int .i64 (a.getD x.toNat (([] : List Int), ((0 : Int), ((0 : Int), (0 : Int))))).2.2.1) (.int .i64 (a.getD x.toNat (([] : List Int), ((0 : Int), ((0 : Int), (0 : Int))))).2.2.2)))))), (.box 45 (.st (.cons (.sl (.int .i64) (b.getD x.toNat (([] : List Int), ((0 : Int), ((0 : Int), (0 : Int))))).1) (.cons (.int .i64 (b.getD x.toNat (([] : List Int), ((0 : Int), ((0 : Int), (0 : Int))))).2.1) (.cons (.int .i64 (b.getD x.toNat (([] : List Int), ((0 : Int), ((0 : Int), (0 : Int))))).2.2.1) (.int .i64 (b.getD x.toNat (([] : List Int), ((0 : Int), ((0 : Int), (0 : Int))))).2.2.2))))))]) ((True) ∧ (True)) (by kernel_rfl) (by kernel_rfl) ⟨trivial, trivial⟩ ?_
          refine KS.opsOf ?_
          have hq : (True) ∧ (True) := ⟨trivial, trivial⟩
          refine TOS.run 1 [] (by kernel_rfl) ?_ ?_
          · apply prop_of ?_ hq
            kernel_rfl
          refine TOS.nil (by kernel_rfl) ?_
          refine XS.then ?_
          refine TS.ret ?_
          obtain rfl : false = r := Option.some.inj h
          exact XS.fin [] ((True) ∧ (True)) (by kernel_rfl) ⟨trivial, trivial⟩
        · refine TS.cond (!y_2) ?_ (fun hcz => by rw [c9] at hcz; cases hcz) (fun hcz => ?_)
          · kernel_rfl
          refine TS.skip ?_
          refine XS.blockEnd ?_
          refine XS.then ?_
          have hq : (True) ∧ ((True) ∧ (True)) := ⟨trivial, ⟨trivial, trivial⟩⟩
          refine TS.reg [] ?_ ?_
          · apply prop_of ?_ hq
            kernel_rfl
          refine XS.reAny [0] (mkMask 32 [1, 2, 15, 16, 17]) (IntKind.wrap .i64 (x + (1 : Int))) h ?_
          kernel_rfl
      · refine TS.cond (decide (x < ((a.length : Nat) : Int))) ?_ (fun hcz => by rw [c4] at hcz; cases hcz) (fun hcz => ?_)
        · kernel_rfl
        refine TS.exit ?_
        refine XS.passE ?_
        refine XS.passE ?_
        refine XS.out ?_
        refine XS.then ?_
        refine TS.seq ?_
        have hq : (True) ∧ (True) := ⟨trivial, trivial⟩
        refine TS.reg [] ?_ ?_
        · apply prop_of ?_ hq
          kernel_rfl
        refine XS.then ?_
        refine TS.ret ?_
        refine XS.backR 0 (mkTs 8 [(4, (.bool false))]) (mkTs 8 [(4, (.bool false)), (7, (.bool true))], [.dead]) ((True) ∧ (True)) (by kernel_rfl) (by kernel_rfl) ⟨trivial, trivial⟩ ?_
        refine KS.opsOf ?_
        have hq : (True) ∧ (True) := ⟨trivial, trivial⟩
        refine TOS.run 1 [] (by kernel_rfl) ?_ ?_
        · apply prop_of ?_ hq
          kernel_rfl
        refine TOS.nil (by kernel_rfl) ?_
        refine XS.then ?_
        refine TS.ret ?_
        obtain rfl : true = r := Option.some.inj h
        exact XS.fin [] ((True) ∧ (True)) (by kernel_rfl) ⟨trivial, trivial⟩

/-! plugtree/pluglaw.TopoUnplugs -/
def F9 (n : Nat) (tree : List ((List Int) × Int × Int × Int)) (path : List Int) : Option Bool := ((F37 n tree path).bind fun y_2 => ((F38 n tree path).bind fun y_3 => ((F39 n y_2.2.1 y_3.1).bind fun y_4 => (bif y_4 then ((F39 n y_2.2.2 y_3.2.1).bind fun y_5 => (bif y_5 then (some (y_2.1 == y_3.2.2)) else (some false))) else (some false)))))
theorem F9_ok (n : Nat) (tree : List ((List Int) × Int × Int × Int)) (path : List Int) (r : Bool) (h : F9 n tree path = some r) : PureC Try.prog 9 [(.sl (.st (.pair (.sl (.int .i64)) (.pair (.int .i64) (.pair (.int .i64) (.int .i64))))) tree), (.sl (.int .i64) path)] (.bool r) [] := by
  refine PureC.mkS Try.func9 rfl rfl ?_
  intro w0 fz0 hfz
  replace h : ((F37 n tree path).bind fun y_2 => ((F38 n tree path).bind fun y_3 => ((F39 n y_2.2.1 y_3.1).bind fun y_4 => (bif y_4 then ((F39 n y_2.2.2 y_3.2.1).bind fun y_5 => (bif y_5 then (some (y_2.1 == y_3.2.2)) else (some false))) else (some false))))) = some r := h
  refine TS.seq ?_
  have hq : (True) ∧ (True) := ⟨trivial, trivial⟩
  refine TS.reg [] ?_ ?_
  · apply prop_of ?_ hq
    kernel_rfl
  refine XS.then ?_
  refine TS.seq ?_
  obtain ⟨y_2, hx1, h⟩ := bind_some' h
  have hq : (True) ∧ ((True) ∧ ((PureC Try.prog 37 [(.sl (.st (.pair (.sl (.int .i64)) (.pair (.int .i64) (.pair (.int .i64) (.int .i64))))) tree), (.sl (.int .i64) path)] (.tup (.cons (.row 0) (.cons (.row 1) (.cons (.int .i64 y_2.1) .nil)))) [(.row 45 (.st (.pair (.sl (.int .i64)) (.pair (.int .i64) (.pair (.int .i64) (.int .i64))))) y_2.2.1), (.row 45 (.st (.pair (.sl (.int .i64)) (.pair (.int .i64) (.pair (.int .i64) (.int .i64))))) y_2.2.2)]) ∧ ((True) ∧ ((True) ∧ ((True) ∧ ((True) ∧ ((True) ∧ ((True) ∧ ((True) ∧ (True)))))))))) := ⟨trivial, ⟨trivial, ⟨F37_ok n tree path y_2 hx1, ⟨trivial, ⟨trivial, ⟨trivial, ⟨trivial, ⟨trivial, ⟨trivial, ⟨trivial, trivial⟩⟩⟩⟩⟩⟩⟩⟩⟩⟩
  refine TS.reg [.none, .none, (.call (.tup (.cons (.row 0) (.cons (.row 1) (.cons (.int .i64 y_2.1) .nil)))) [(.row 45 (.st (.pair (.sl (.int .i64)) (.pair (.int .i64) (.pair (.int .i64) (.int .i64))))) y_2.2.1), (.row 45 (.st (.pair (.sl (.int .i64)) (.pair (.int .i64) (.pair (.int .i64) (.int .i64))))) y_2.2.2)])] ?_ ?_
  · apply prop_of ?_ hq
    kernel_rfl
  refine XS.then ?_
  refine TS.seq ?_
  obtain ⟨y_3, hx2, h⟩ := bind_some' h
  have hq : (True) ∧ ((True) ∧ ((PureC Try.prog 38 [(.sl (.st (.pair (.sl (.int .i64)) (.pair (.int .i64) (.pair (.int .i64) (.int .i64))))) tree), (.sl (.int .i64) path)] (.tup (.cons (.sl (.st (.pair (.sl (.int .i64)) (.pair (.int .i64) (.pair (.int .i64) (.int .i64))))) y_3.1) (.cons (.sl (.st (.pair (.sl (.int .i64)) (.pair (.int .i64) (.pair (.int .i64) (.int .i64))))) y_3.2.1) (.cons (.int .i64 y_3.2.2) .nil)))) []) ∧ ((True) ∧ ((True) ∧ ((True) ∧ ((True) ∧ ((True) ∧ ((True) ∧ ((True) ∧ (True)))))))))) := ⟨trivial, ⟨trivial, ⟨F38_ok n tree path y_3 hx2, ⟨trivial, ⟨trivial, ⟨trivial, ⟨trivial, ⟨trivial, ⟨trivial, ⟨trivial, trivial⟩⟩⟩⟩⟩⟩⟩⟩⟩⟩
  refine TS.reg [.none, .none, (.call (.tup (.cons (.sl (.st (.pair (.sl (.int .i64)) (.pair (.int .i64) (.pair (.int .i64) (.int .i64))))) y_3.1) (.cons (.sl (.st (.pair (.sl (.int .i64)) (.pair (.int .i64) (.pair (.int .i64) (.int .i64))))) y_3.2.1) (.cons (.int .i64 y_3.2.2) .nil)))) [])] ?_ ?_
  · apply prop_of ?_ hq
    kernel_rfl
  refine XS.then ?_
  refine TS.seq ?_
  obtain ⟨y_4, hx3, h⟩ := bind_some' h
  rcases bif_some h with ⟨c4, h⟩ | ⟨c5, h⟩
  · obtain ⟨y_5, hx6, h⟩ := bind_some' h
    rcases bif_some h with ⟨c7, h⟩ | ⟨c8, h⟩
    · have hq : (True) ∧ ((True) ∧ ((((True) ∧ ((True) ∧ (True))) ∧ PureC Try.prog 39 [(.sl (.st (.pair (.sl (.int .i64)) (.pair (.int .i64) (.pair (.int .i64) (.int .i64))))) y_2.2.1), (.sl (.st (.pair (.sl (.int .i64)) (.pair (.int .i64) (.pair (.int .i64) (.int .i64))))) y_3.1)] (.bool y_4) []) ∧ (((True) ∧ y_4 = true) ∧ ((True) ∧ ((True) ∧ ((((True) ∧ ((True) ∧ (True))) ∧ PureC Try.prog 39 [(.sl (.st (.pair (.sl (.int .i64)) (.pair (.int .i64) (.pair (.int .i64) (.int .i64))))) y_2.2.2), (.sl (.st (.pair (.sl (.int .i64)) (.pair (.int .i64) (.pair (.int .i64) (.int .i64))))) y_3.2.1)] (.bool y_5) []) ∧ ((True) ∧ (((True) ∧ y_5 = true) ∧ ((True) ∧ ((True) ∧ ((True) ∧ ((True) ∧ ((True) ∧ (True)))))))))))))) := ⟨trivial, ⟨trivial, ⟨⟨⟨trivial, ⟨trivial, trivial⟩⟩, F39_ok n y_2.2.1 y_3.1 y_4 hx3⟩, ⟨⟨trivial, c4⟩, ⟨trivial, ⟨trivial, ⟨⟨⟨trivial, ⟨trivial, trivial⟩⟩, F39_ok n y_2.2.2 y_3.2.1 y_5 hx6⟩, ⟨trivial, ⟨⟨trivial, c7⟩, ⟨trivial, ⟨trivial, ⟨trivial, ⟨trivial, ⟨trivial, trivial⟩⟩⟩⟩⟩⟩⟩⟩⟩⟩⟩⟩⟩⟩
      refine TS.reg [.none, .none, (.call (.bool y_4) []), .dec true, .none, .none, (.call (.bool y_5) []), .none, .dec true] ?_ ?_
      · apply prop_of ?_ hq
        kernel_rfl
      refine XS.then ?_
      refine TS.ret ?_
      obtain rfl : (y_2.1 == y_3.2.2) = r := Option.some.inj h
      exact XS.fin [] ((True) ∧ (True)) (by kernel_rfl) ⟨trivial, trivial⟩
    · have hq : (True) ∧ ((True) ∧ ((((True) ∧ ((True) ∧ (True))) ∧ PureC Try.prog 39 [(.sl (.st (.pair (.sl (.int .i64)) (.pair (.int .i64) (.pair (.int .i64) (.int .i64))))) y_2.2.1), (.sl (.st (.pair (.sl (.int .i64)) (.pair (.int .i64) (.pair (.int .i64) (.int .i64))))) y_3.1)] (.bool y_4) []) ∧ (((True) ∧ y_4 = true) ∧ ((True) ∧ ((True) ∧ ((((True) ∧ ((True) ∧ (True))) ∧ PureC Try.prog 39 [(.sl (.st (.pair (.sl (.int .i64)) (.pair (.int .i64) (.pair (.int .i64) (.int .i64))))) y_2.2.2), (.sl (.st (.pair (.sl (.int .i64)) (.pair (.int .i64) (.pair (.int .i64) (.int .i64))))) y_3.2.1)] (.bool y_5) []) ∧ ((True) ∧ (((True) ∧ y_5 = false) ∧ ((True) ∧ ((True) ∧ (True))))))))))) := ⟨trivial, ⟨trivial, ⟨⟨⟨trivial, ⟨trivial, trivial⟩⟩, F39_ok n y_2.2.1 y_3.1 y_4 hx3⟩, ⟨⟨trivial, c4⟩, ⟨trivial, ⟨trivial, ⟨⟨⟨trivial, ⟨trivial, trivial⟩⟩, F39_ok n y_2.2.2 y_3.2.1 y_5 hx6⟩, ⟨trivial, ⟨⟨trivial, c8⟩, ⟨trivial, ⟨trivial, trivial⟩⟩⟩⟩⟩⟩⟩⟩⟩⟩⟩
      refine TS.reg [.none, .none, (.call (.bool y_4) []), .dec true, .none, .none, (.call (.bool y_5) []), .none, .dec false] ?_ ?_
      · apply prop_of ?_ hq
        kernel_rfl
      refine XS.then ?_
      refine TS.ret ?_
      obtain rfl : false = r := Option.some.inj h
      exact XS.fin [] ((True) ∧ (True)) (by kernel_rfl) ⟨trivial, trivial⟩
  · have hq : (True) ∧ ((True) ∧ ((((True) ∧ ((True) ∧ (True))) ∧ PureC Try.prog 39 [(.sl (.st (.pair (.sl (.int .i64)) (.pair (.int .i64) (.pair (.int .i64) (.int .i64))))) y_2.2.1), (.sl (.st (.pair (.sl (.int .i64)) (.pair (.int .i64) (.pair (.int .i64) (.int .i64))))) y_3.1)] (.bool y_4) []) ∧ (((True) ∧ y_4 = false) ∧ ((True) ∧ ((True) ∧ ((True) ∧ ((True) ∧ (True)))))))) := ⟨trivial, ⟨trivial, ⟨⟨⟨trivial, ⟨trivial, trivial⟩⟩, F39_ok n y_2.2.1 y_3.1 y_4 hx3⟩, ⟨⟨trivial, c5⟩, ⟨trivial, ⟨trivial, ⟨trivial, ⟨trivial, trivial⟩⟩⟩⟩⟩⟩⟩⟩
    refine TS.reg [.none, .none, (.call (.bool y_4) []), .dec false] ?_ ?_
    · apply prop_of ?_ hq
      kernel_rfl
    refine XS.then ?_
    refine TS.ret ?_
    obtain rfl : false = r := Option.some.inj h
    exact XS.fin [] ((True) ∧ (True)) (by kernel_rfl) ⟨trivial, trivial⟩
end Go.Proofs.Ytmcjcioifgaihaa
