/- Functions of the program, as functions of values. -/
import Derived.Test.YtbeilpecdimheaaAm24
import Derived.Test.YtbeilpecdimheaaChecked
namespace Go.Proofs.Ytbeilpecdimheaa
open Go Go.RowKit
set_option linter.unusedVariables false
set_option maxRecDepth 100000

/-! plugtree/hub.port$1 -/
def F96 (n : Nat) (bit : Int) (x : Int) : Option Bool := (some ((bitsI .and .i64 x bit) != (0 : Int)))
theorem F96_ok (n : Nat) (bit : Int) (x : Int) (r : Bool) (h : F96 n bit x = some r) : PureC Try.prog 96 [(.int .i64 bit), (.pv (.int .i64 x))] (.bool r) [] := by
  refine PureC.mkS Try.func96 rfl rfl ?_
  intro w0 fz0 hfz
  replace h : (some ((bitsI .and .i64 x bit) != (0 : Int))) = some r := h
  refine TS.seq ?_
  have hq : (True) ∧ (True) := ⟨trivial, trivial⟩
  refine TS.reg [] ?_ ?_
  · apply prop_of ?_ hq
    kernel_rfl
  refine XS.then ?_
  refine TS.seq ?_
  have hq : (True) ∧ ((True) ∧ ((True) ∧ ((True) ∧ ((True) ∧ (True))))) := ⟨trivial, ⟨trivial, ⟨trivial, ⟨trivial, ⟨trivial, trivial⟩⟩⟩⟩⟩
  refine TS.reg [] ?_ ?_
  · apply prop_of ?_ hq
    kernel_rfl
  refine XS.then ?_
  refine TS.ret ?_
  obtain rfl : ((bitsI .and .i64 x bit) != (0 : Int)) = r := Option.some.inj h
  exact XS.fin [] ((True) ∧ (True)) (by kernel_rfl) ⟨trivial, trivial⟩

/-! plugtree/hub.port -/
def F82_j2 (n : Nat) (p_Status : Int) : Bool → Option Bool
  | x => (bif x then (some false) else ((F96 n (1 : Int) p_Status).bind fun y_2 => (bif y_2 then ((F96 n (256 : Int) p_Status).bind fun y_3 => (bif (!y_3) then (some false) else ((F96 n (18 : Int) p_Status).bind fun y_4 => (bif y_4 then (bif (!y_2) then (some false) else ((F96 n (2 : Int) p_Status).bind fun y_5 => (bif (!y_5) then (some true) else ((F96 n (16 : Int) p_Status).bind fun y_6 => (some (!y_6)))))) else ((F96 n (2 : Int) p_Status).bind fun y_7 => (bif (!y_7) then (some true) else ((F96 n (16 : Int) p_Status).bind fun y_8 => (some (!y_8))))))))) else ((F96 n (18 : Int) p_Status).bind fun y_9 => (bif y_9 then (bif (!y_2) then (some false) else ((F96 n (2 : Int) p_Status).bind fun y_10 => (bif (!y_10) then (some true) else ((F96 n (16 : Int) p_Status).bind fun y_11 => (some (!y_11)))))) else ((F96 n (2 : Int) p_Status).bind fun y_12 => (bif (!y_12) then (some true) else ((F96 n (16 : Int) p_Status).bind fun y_13 => (some (!y_13))))))))))
def F82 (n : Nat) (p_Status : Int) (p_Change : Int) : Option Bool := (bif (decide (p_Status < (0 : Int))) then (F82_j2 n p_Status true) else (bif ((bitsI .andNot .i64 p_Status (275 : Int)) != (0 : Int)) then (F82_j2 n p_Status true) else (bif (decide (p_Change < (0 : Int))) then (F82_j2 n p_Status true) else (F82_j2 n p_Status ((bitsI .andNot .i64 p_Change (19 : Int)) != (0 : Int))))))
theorem F82_ok (n : Nat) (p_Status : Int) (p_Change : Int) (r : Bool) (h : F82 n p_Status p_Change = some r) : PureC Try.prog 82 [(.st (.cons (.int .i64 p_Status) (.int .i64 p_Change)))] (.bool r) [] := by
  refine PureC.mkS Try.func82 rfl rfl ?_
  intro w0 fz0 hfz
  replace h : (bif (decide (p_Status < (0 : Int))) then (F82_j2 n p_Status true) else (bif ((bitsI .andNot .i64 p_Status (275 : Int)) != (0 : Int)) then (F82_j2 n p_Status true) else (bif (decide (p_Change < (0 : Int))) then (F82_j2 n p_Status true) else (F82_j2 n p_Status ((bitsI .andNot .i64 p_Change (19 : Int)) != (0 : Int)))))) = some r := h
  refine TS.seq ?_
  have hq : (True) ∧ ((True) ∧ (True)) := ⟨trivial, ⟨trivial, trivial⟩⟩
  refine TS.reg [] ?_ ?_
  · apply prop_of ?_ hq
    kernel_rfl
  refine XS.then ?_
  refine TS.seq ?_
  have hq : (True) ∧ ((True) ∧ ((True) ∧ ((True) ∧ (True)))) := ⟨trivial, ⟨trivial, ⟨trivial, ⟨trivial, trivial⟩⟩⟩⟩
  refine TS.reg [] ?_ ?_
  · apply prop_of ?_ hq
    kernel_rfl
  refine XS.then ?_
  refine TS.seq ?_
  have hq : (True) ∧ ((True) ∧ (True)) := ⟨trivial, ⟨trivial, trivial⟩⟩
  refine TS.reg [] ?_ ?_
  · apply prop_of ?_ hq
    kernel_rfl
  refine XS.then ?_
  refine TS.seq ?_
  refine TS.block ?_
  refine TS.seq ?_
  refine TS.cut (D := Bool) (fun d => match d with | x => (mkTs 52 [(4, (.fn 96 (.cons (.ptr 0 []) .nil))), (8, (.bool x))], [(.box 3 (.int .i64 p_Status))])) (fun d => F82_j2 n p_Status d = some r) ?_ ?_
  · rintro x h
    replace h : (bif x then (some false) else ((F96 n (1 : Int) p_Status).bind fun y_2 => (bif y_2 then ((F96 n (256 : Int) p_Status).bind fun y_3 => (bif (!y_3) then (some false) else ((F96 n (18 : Int) p_Status).bind fun y_4 => (bif y_4 then (bif (!y_2) then (some false) else ((F96 n (2 : Int) p_Status).bind fun y_5 => (bif (!y_5) then (some true) else ((F96 n (16 : Int) p_Status).bind fun y_6 => (some (!y_6)))))) else ((F96 n (2 : Int) p_Status).bind fun y_7 => (bif (!y_7) then (some true) else ((F96 n (16 : Int) p_Status).bind fun y_8 => (some (!y_8))))))))) else ((F96 n (18 : Int) p_Status).bind fun y_9 => (bif y_9 then (bif (!y_2) then (some false) else ((F96 n (2 : Int) p_Status).bind fun y_10 => (bif (!y_10) then (some true) else ((F96 n (16 : Int) p_Status).bind fun y_11 => (some (!y_11)))))) else ((F96 n (2 : Int) p_Status).bind fun y_12 => (bif (!y_12) then (some true) else ((F96 n (16 : Int) p_Status).bind fun y_13 => (some (!y_13)))))))))) = some r := h
    refine XS.then ?_
    rcases bif_some h with ⟨c1, h⟩ | ⟨c2, h⟩
    · refine TS.cond x ?_ (fun e => ?_) (fun e => by rw [c1] at e; cases e)
      · kernel_rfl
      refine TS.seq ?_
      have hq : (True) ∧ (True) := ⟨trivial, trivial⟩
      refine TS.reg [] ?_ ?_
      · apply prop_of ?_ hq
        kernel_rfl
      refine XS.then ?_
      refine TS.ret ?_
      refine XS.blockRet ?_
      refine XS.passR ?_
      obtain rfl : false = r := Option.some.inj h
      exact XS.fin [] ((True) ∧ (True)) (by kernel_rfl) ⟨trivial, trivial⟩
    · refine TS.cond x ?_ (fun e => by rw [c2] at e; cases e) (fun e => ?_)
      · kernel_rfl
      refine TS.seq ?_
      obtain ⟨y_2, hx3, h⟩ := bind_some' h
      rcases bif_some h with ⟨c4, h⟩ | ⟨c5, h⟩
      · obtain ⟨y_3, hx6, h⟩ := bind_some' h
        rcases bif_some h with ⟨c7, h⟩ | ⟨c8, h⟩
        · have hq : (True) ∧ ((((True) ∧ ((True) ∧ (True))) ∧ PureC Try.prog 96 [(.int .i64 (1 : Int)), (.pv (.int .i64 p_Status))] (.bool y_2) []) ∧ (((True) ∧ y_2 = true) ∧ ((True) ∧ ((((True) ∧ ((True) ∧ (True))) ∧ PureC Try.prog 96 [(.int .i64 (256 : Int)), (.pv (.int .i64 p_Status))] (.bool y_3) []) ∧ ((True) ∧ ((True) ∧ (((True) ∧ (!y_3) = true) ∧ ((True) ∧ ((True) ∧ (True)))))))))) := ⟨trivial, ⟨⟨⟨trivial, ⟨trivial, trivial⟩⟩, F96_ok n (1 : Int) p_Status y_2 hx3⟩, ⟨⟨trivial, c4⟩, ⟨trivial, ⟨⟨⟨trivial, ⟨trivial, trivial⟩⟩, F96_ok n (256 : Int) p_Status y_3 hx6⟩, ⟨trivial, ⟨trivial, ⟨⟨trivial, c7⟩, ⟨trivial, ⟨trivial, trivial⟩⟩⟩⟩⟩⟩⟩⟩⟩⟩
          refine TS.reg [.none, (.call (.bool y_2) []), .dec true, .none, (.call (.bool y_3) []), .none, .none, .dec true] ?_ ?_
          · apply prop_of ?_ hq
            kernel_rfl
          refine XS.then ?_
          refine TS.yes ?_ ?_
          · kernel_rfl
          refine TS.seq ?_
          have hq : (True) ∧ (True) := ⟨trivial, trivial⟩
          refine TS.reg [] ?_ ?_
          · apply prop_of ?_ hq
            kernel_rfl
          refine XS.then ?_
          refine TS.ret ?_
          refine XS.blockRet ?_
          refine XS.passR ?_
          obtain rfl : false = r := Option.some.inj h
          exact XS.fin [] ((True) ∧ (True)) (by kernel_rfl) ⟨trivial, trivial⟩
        · obtain ⟨y_4, hx9, h⟩ := bind_some' h
          rcases bif_some h with ⟨c10, h⟩ | ⟨c11, h⟩
          · have hq : (True) ∧ ((((True) ∧ ((True) ∧ (True))) ∧ PureC Try.prog 96 [(.int .i64 (1 : Int)), (.pv (.int .i64 p_Status))] (.bool y_2) []) ∧ (((True) ∧ y_2 = true) ∧ ((True) ∧ ((((True) ∧ ((True) ∧ (True))) ∧ PureC Try.prog 96 [(.int .i64 (256 : Int)), (.pv (.int .i64 p_Status))] (.bool y_3) []) ∧ ((True) ∧ ((True) ∧ (((True) ∧ (!y_3) = false) ∧ ((True) ∧ ((((True) ∧ ((True) ∧ (True))) ∧ PureC Try.prog 96 [(.int .i64 (18 : Int)), (.pv (.int .i64 p_Status))] (.bool y_4) []) ∧ (((True) ∧ y_4 = true) ∧ ((True) ∧ ((((True) ∧ ((True) ∧ (True))) ∧ PureC Try.prog 96 [(.int .i64 (1 : Int)), (.pv (.int .i64 p_Status))] (.bool y_2) []) ∧ ((True) ∧ ((True) ∧ ((True) ∧ ((True) ∧ (True))))))))))))))))) := ⟨trivial, ⟨⟨⟨trivial, ⟨trivial, trivial⟩⟩, F96_ok n (1 : Int) p_Status y_2 hx3⟩, ⟨⟨trivial, c4⟩, ⟨trivial, ⟨⟨⟨trivial, ⟨trivial, trivial⟩⟩, F96_ok n (256 : Int) p_Status y_3 hx6⟩, ⟨trivial, ⟨trivial, ⟨⟨trivial, c8⟩, ⟨trivial, ⟨⟨⟨trivial, ⟨trivial, trivial⟩⟩, F96_ok n (18 : Int) p_Status y_4 hx9⟩, ⟨⟨trivial, c10⟩, ⟨trivial, ⟨⟨⟨trivial, ⟨trivial, trivial⟩⟩, F96_ok n (1 : Int) p_Status y_2 hx3⟩, ⟨trivial, ⟨trivial, ⟨trivial, ⟨trivial, trivial⟩⟩⟩⟩⟩⟩⟩⟩⟩⟩⟩⟩⟩⟩⟩⟩⟩
            refine TS.reg [.none, (.call (.bool y_2) []), .dec true, .none, (.call (.bool y_3) []), .none, .none, .dec false, .none, (.call (.bool y_4) []), .dec true, .none, (.call (.bool y_2) [])] ?_ ?_
            · apply prop_of ?_ hq
              kernel_rfl
            refine XS.then ?_
            rcases bif_some h with ⟨c12, h⟩ | ⟨c13, h⟩
            · refine TS.cond (!y_2) ?_ (fun e => ?_) (fun e => by rw [c12] at e; cases e)
              · kernel_rfl
              refine TS.seq ?_
              have hq : (True) ∧ (True) := ⟨trivial, trivial⟩
              refine TS.reg [] ?_ ?_
              · apply prop_of ?_ hq
                kernel_rfl
              refine XS.then ?_
              refine TS.ret ?_
              refine XS.blockRet ?_
              refine XS.passR ?_
              obtain rfl : false = r := Option.some.inj h
              exact XS.fin [] ((True) ∧ (True)) (by kernel_rfl) ⟨trivial, trivial⟩
            · refine TS.cond (!y_2) ?_ (fun e => by rw [c13] at e; cases e) (fun e => ?_)
              · kernel_rfl
              refine TS.skip ?_
              refine XS.blockEnd ?_
              refine XS.then ?_
              refine TS.seq ?_
              obtain ⟨y_5, hx14, h⟩ := bind_some' h
              rcases bif_some h with ⟨c15, h⟩ | ⟨c16, h⟩
              · have hq : (True) ∧ ((((True) ∧ ((True) ∧ (True))) ∧ PureC Try.prog 96 [(.int .i64 (2 : Int)), (.pv (.int .i64 p_Status))] (.bool y_5) []) ∧ ((True) ∧ (((True) ∧ (!y_5) = true) ∧ ((True) ∧ ((True) ∧ (True)))))) := ⟨trivial, ⟨⟨⟨trivial, ⟨trivial, trivial⟩⟩, F96_ok n (2 : Int) p_Status y_5 hx14⟩, ⟨trivial, ⟨⟨trivial, c15⟩, ⟨trivial, ⟨trivial, trivial⟩⟩⟩⟩⟩⟩
                refine TS.reg [.none, (.call (.bool y_5) []), .none, .dec true] ?_ ?_
                · apply prop_of ?_ hq
                  kernel_rfl
                refine XS.then ?_
                refine TS.ret ?_
                obtain rfl : true = r := Option.some.inj h
                exact XS.fin [] ((True) ∧ (True)) (by kernel_rfl) ⟨trivial, trivial⟩
              · obtain ⟨y_6, hx17, h⟩ := bind_some' h
                have hq : (True) ∧ ((((True) ∧ ((True) ∧ (True))) ∧ PureC Try.prog 96 [(.int .i64 (2 : Int)), (.pv (.int .i64 p_Status))] (.bool y_5) []) ∧ ((True) ∧ (((True) ∧ (!y_5) = false) ∧ ((True) ∧ ((((True) ∧ ((True) ∧ (True))) ∧ PureC Try.prog 96 [(.int .i64 (16 : Int)), (.pv (.int .i64 p_Status))] (.bool y_6) []) ∧ ((True) ∧ ((True) ∧ ((True) ∧ (True))))))))) := ⟨trivial, ⟨⟨⟨trivial, ⟨trivial, trivial⟩⟩, F96_ok n (2 : Int) p_Status y_5 hx14⟩, ⟨trivial, ⟨⟨trivial, c16⟩, ⟨trivial, ⟨⟨⟨trivial, ⟨trivial, trivial⟩⟩, F96_ok n (16 : Int) p_Status y_6 hx17⟩, ⟨trivial, ⟨trivial, ⟨trivial, trivial⟩⟩⟩⟩⟩⟩⟩⟩⟩
                refine TS.reg [.none, (.call (.bool y_5) []), .none, .dec false, .none, (.call (.bool y_6) [])] ?_ ?_
                · apply prop_of ?_ hq
                  kernel_rfl
                refine XS.then ?_
                refine TS.ret ?_
                obtain rfl : (!y_6) = r := Option.some.inj h
                exact XS.fin [] ((True) ∧ (True)) (by kernel_rfl) ⟨trivial, trivial⟩
          · have hq : (True) ∧ ((((True) ∧ ((True) ∧ (True))) ∧ PureC Try.prog 96 [(.int .i64 (1 : Int)), (.pv (.int .i64 p_Status))] (.bool y_2) []) ∧ (((True) ∧ y_2 = true) ∧ ((True) ∧ ((((True) ∧ ((True) ∧ (True))) ∧ PureC Try.prog 96 [(.int .i64 (256 : Int)), (.pv (.int .i64 p_Status))] (.bool y_3) []) ∧ ((True) ∧ ((True) ∧ (((True) ∧ (!y_3) = false) ∧ ((True) ∧ ((((True) ∧ ((True) ∧ (True))) ∧ PureC Try.prog 96 [(.int .i64 (18 : Int)), (.pv (.int .i64 p_Status))] (.bool y_4) []) ∧ (((True) ∧ y_4 = false) ∧ ((True) ∧ ((True) ∧ ((True) ∧ (True)))))))))))))) := ⟨trivial, ⟨⟨⟨trivial, ⟨trivial, trivial⟩⟩, F96_ok n (1 : Int) p_Status y_2 hx3⟩, ⟨⟨trivial, c4⟩, ⟨trivial, ⟨⟨⟨trivial, ⟨trivial, trivial⟩⟩, F96_ok n (256 : Int) p_Status y_3 hx6⟩, ⟨trivial, ⟨trivial, ⟨⟨trivial, c8⟩, ⟨trivial, ⟨⟨⟨trivial, ⟨trivial, trivial⟩⟩, F96_ok n (18 : Int) p_Status y_4 hx9⟩, ⟨⟨trivial, c11⟩, ⟨trivial, ⟨trivial, ⟨trivial, trivial⟩⟩⟩⟩⟩⟩⟩⟩⟩⟩⟩⟩⟩⟩
            refine TS.reg [.none, (.call (.bool y_2) []), .dec true, .none, (.call (.bool y_3) []), .none, .none, .dec false, .none, (.call (.bool y_4) []), .dec false] ?_ ?_
            · apply prop_of ?_ hq
              kernel_rfl
            refine XS.then ?_
            refine TS.no ?_ ?_
            · kernel_rfl
            refine TS.skip ?_
            refine XS.blockEnd ?_
            refine XS.then ?_
            refine TS.seq ?_
            obtain ⟨y_7, hx18, h⟩ := bind_some' h
            rcases bif_some h with ⟨c19, h⟩ | ⟨c20, h⟩
            · have hq : (True) ∧ ((((True) ∧ ((True) ∧ (True))) ∧ PureC Try.prog 96 [(.int .i64 (2 : Int)), (.pv (.int .i64 p_Status))] (.bool y_7) []) ∧ ((True) ∧ (((True) ∧ (!y_7) = true) ∧ ((True) ∧ ((True) ∧ (True)))))) := ⟨trivial, ⟨⟨⟨trivial, ⟨trivial, trivial⟩⟩, F96_ok n (2 : Int) p_Status y_7 hx18⟩, ⟨trivial, ⟨⟨trivial, c19⟩, ⟨trivial, ⟨trivial, trivial⟩⟩⟩⟩⟩⟩
              refine TS.reg [.none, (.call (.bool y_7) []), .none, .dec true] ?_ ?_
              · apply prop_of ?_ hq
                kernel_rfl
              refine XS.then ?_
              refine TS.ret ?_
              obtain rfl : true = r := Option.some.inj h
              exact XS.fin [] ((True) ∧ (True)) (by kernel_rfl) ⟨trivial, trivial⟩
            · obtain ⟨y_8, hx21, h⟩ := bind_some' h
              have hq : (True) ∧ ((((True) ∧ ((True) ∧ (True))) ∧ PureC Try.prog 96 [(.int .i64 (2 : Int)), (.pv (.int .i64 p_Status))] (.bool y_7) []) ∧ ((True) ∧ (((True) ∧ (!y_7) = false) ∧ ((True) ∧ ((((True) ∧ ((True) ∧ (True))) ∧ PureC Try.prog 96 [(.int .i64 (16 : Int)), (.pv (.int .i64 p_Status))] (.bool y_8) []) ∧ ((True) ∧ ((True) ∧ ((True) ∧ (True))))))))) := ⟨trivial, ⟨⟨⟨trivial, ⟨trivial, trivial⟩⟩, F96_ok n (2 : Int) p_Status y_7 hx18⟩, ⟨trivial, ⟨⟨trivial, c20⟩, ⟨trivial, ⟨⟨⟨trivial, ⟨trivial, trivial⟩⟩, F96_ok n (16 : Int) p_Status y_8 hx21⟩, ⟨trivial, ⟨trivial, ⟨trivial, trivial⟩⟩⟩⟩⟩⟩⟩⟩⟩
              refine TS.reg [.none, (.call (.bool y_7) []), .none, .dec false, .none, (.call (.bool y_8) [])] ?_ ?_
              · apply prop_of ?_ hq
                kernel_rfl
              refine XS.then ?_
              refine TS.ret ?_
              obtain rfl : (!y_8) = r := Option.some.inj h
              exact XS.fin [] ((True) ∧ (True)) (by kernel_rfl) ⟨trivial, trivial⟩
      · obtain ⟨y_9, hx22, h⟩ := bind_some' h
        rcases bif_some h with ⟨c23, h⟩ | ⟨c24, h⟩
        · have hq : (True) ∧ ((((True) ∧ ((True) ∧ (True))) ∧ PureC Try.prog 96 [(.int .i64 (1 : Int)), (.pv (.int .i64 p_Status))] (.bool y_2) []) ∧ (((True) ∧ y_2 = false) ∧ ((True) ∧ ((True) ∧ ((True) ∧ ((((True) ∧ ((True) ∧ (True))) ∧ PureC Try.prog 96 [(.int .i64 (18 : Int)), (.pv (.int .i64 p_Status))] (.bool y_9) []) ∧ (((True) ∧ y_9 = true) ∧ ((True) ∧ ((((True) ∧ ((True) ∧ (True))) ∧ PureC Try.prog 96 [(.int .i64 (1 : Int)), (.pv (.int .i64 p_Status))] (.bool y_2) []) ∧ ((True) ∧ ((True) ∧ ((True) ∧ ((True) ∧ (True)))))))))))))) := ⟨trivial, ⟨⟨⟨trivial, ⟨trivial, trivial⟩⟩, F96_ok n (1 : Int) p_Status y_2 hx3⟩, ⟨⟨trivial, c5⟩, ⟨trivial, ⟨trivial, ⟨trivial, ⟨⟨⟨trivial, ⟨trivial, trivial⟩⟩, F96_ok n (18 : Int) p_Status y_9 hx22⟩, ⟨⟨trivial, c23⟩, ⟨trivial, ⟨⟨⟨trivial, ⟨trivial, trivial⟩⟩, F96_ok n (1 : Int) p_Status y_2 hx3⟩, ⟨trivial, ⟨trivial, ⟨trivial, ⟨trivial, trivial⟩⟩⟩⟩⟩⟩⟩⟩⟩⟩⟩⟩⟩⟩
          refine TS.reg [.none, (.call (.bool y_2) []), .dec false, .none, .none, .none, .none, .none, .none, (.call (.bool y_9) []), .dec true, .none, (.call (.bool y_2) [])] ?_ ?_
          · apply prop_of ?_ hq
            kernel_rfl
          refine XS.then ?_
          rcases bif_some h with ⟨c25, h⟩ | ⟨c26, h⟩
          · refine TS.cond (!y_2) ?_ (fun e => ?_) (fun e => by rw [c25] at e; cases e)
            · kernel_rfl
            refine TS.seq ?_
            have hq : (True) ∧ (True) := ⟨trivial, trivial⟩
            refine TS.reg [] ?_ ?_
            · apply prop_of ?_ hq
              kernel_rfl
            refine XS.then ?_
            refine TS.ret ?_
            refine XS.blockRet ?_
            refine XS.passR ?_
            obtain rfl : false = r := Option.some.inj h
            exact XS.fin [] ((True) ∧ (True)) (by kernel_rfl) ⟨trivial, trivial⟩
          · refine TS.cond (!y_2) ?_ (fun e => by rw [c26] at e; cases e) (fun e => ?_)
            · kernel_rfl
            refine TS.skip ?_
            refine XS.blockEnd ?_
            refine XS.then ?_
            refine TS.seq ?_
            obtain ⟨y_10, hx27, h⟩ := bind_some' h
            rcases bif_some h with ⟨c28, h⟩ | ⟨c29, h⟩
            · have hq : (True) ∧ ((((True) ∧ ((True) ∧ (True))) ∧ PureC Try.prog 96 [(.int .i64 (2 : Int)), (.pv (.int .i64 p_Status))] (.bool y_10) []) ∧ ((True) ∧ (((True) ∧ (!y_10) = true) ∧ ((True) ∧ ((True) ∧ (True)))))) := ⟨trivial, ⟨⟨⟨trivial, ⟨trivial, trivial⟩⟩, F96_ok n (2 : Int) p_Status y_10 hx27⟩, ⟨trivial, ⟨⟨trivial, c28⟩, ⟨trivial, ⟨trivial, trivial⟩⟩⟩⟩⟩⟩
              refine TS.reg [.none, (.call (.bool y_10) []), .none, .dec true] ?_ ?_
              · apply prop_of ?_ hq
                kernel_rfl
              refine XS.then ?_
              refine TS.ret ?_
              obtain rfl : true = r := Option.some.inj h
              exact XS.fin [] ((True) ∧ (True)) (by kernel_rfl) ⟨trivial, trivial⟩
            · obtain ⟨y_11, hx30, h⟩ := bind_some' h
              have hq : (True) ∧ ((((True) ∧ ((True) ∧ (True))) ∧ PureC Try.prog 96 [(.int .i64 (2 : Int)), (.pv (.int .i64 p_Status))] (.bool y_10) []) ∧ ((True) ∧ (((True) ∧ (!y_10) = false) ∧ ((True) ∧ ((((True) ∧ ((True) ∧ (True))) ∧ PureC Try.prog 96 [(.int .i64 (16 : Int)), (.pv (.int .i64 p_Status))] (.bool y_11) []) ∧ ((True) ∧ ((True) ∧ ((True) ∧ (True))))))))) := ⟨trivial, ⟨⟨⟨trivial, ⟨trivial, trivial⟩⟩, F96_ok n (2 : Int) p_Status y_10 hx27⟩, ⟨trivial, ⟨⟨trivial, c29⟩, ⟨trivial, ⟨⟨⟨trivial, ⟨trivial, trivial⟩⟩, F96_ok n (16 : Int) p_Status y_11 hx30⟩, ⟨trivial, ⟨trivial, ⟨trivial, trivial⟩⟩⟩⟩⟩⟩⟩⟩⟩
              refine TS.reg [.none, (.call (.bool y_10) []), .none, .dec false, .none, (.call (.bool y_11) [])] ?_ ?_
              · apply prop_of ?_ hq
                kernel_rfl
              refine XS.then ?_
              refine TS.ret ?_
              obtain rfl : (!y_11) = r := Option.some.inj h
              exact XS.fin [] ((True) ∧ (True)) (by kernel_rfl) ⟨trivial, trivial⟩
        · have hq : (True) ∧ ((((True) ∧ ((True) ∧ (True))) ∧ PureC Try.prog 96 [(.int .i64 (1 : Int)), (.pv (.int .i64 p_Status))] (.bool y_2) []) ∧ (((True) ∧ y_2 = false) ∧ ((True) ∧ ((True) ∧ ((True) ∧ ((((True) ∧ ((True) ∧ (True))) ∧ PureC Try.prog 96 [(.int .i64 (18 : Int)), (.pv (.int .i64 p_Status))] (.bool y_9) []) ∧ (((True) ∧ y_9 = false) ∧ ((True) ∧ ((True) ∧ ((True) ∧ (True))))))))))) := ⟨trivial, ⟨⟨⟨trivial, ⟨trivial, trivial⟩⟩, F96_ok n (1 : Int) p_Status y_2 hx3⟩, ⟨⟨trivial, c5⟩, ⟨trivial, ⟨trivial, ⟨trivial, ⟨⟨⟨trivial, ⟨trivial, trivial⟩⟩, F96_ok n (18 : Int) p_Status y_9 hx22⟩, ⟨⟨trivial, c24⟩, ⟨trivial, ⟨trivial, ⟨trivial, trivial⟩⟩⟩⟩⟩⟩⟩⟩⟩⟩⟩
          refine TS.reg [.none, (.call (.bool y_2) []), .dec false, .none, .none, .none, .none, .none, .none, (.call (.bool y_9) []), .dec false] ?_ ?_
          · apply prop_of ?_ hq
            kernel_rfl
          refine XS.then ?_
          refine TS.no ?_ ?_
          · kernel_rfl
          refine TS.skip ?_
          refine XS.blockEnd ?_
          refine XS.then ?_
          refine TS.seq ?_
          obtain ⟨y_12, hx31, h⟩ := bind_some' h
          rcases bif_some h with ⟨c32, h⟩ | ⟨c33, h⟩
          · have hq : (True) ∧ ((((True) ∧ ((True) ∧ (True))) ∧ PureC Try.prog 96 [(.int .i64 (2 : Int)), (.pv (.int .i64 p_Status))] (.bool y_12) []) ∧ ((True) ∧ (((True) ∧ (!y_12) = true) ∧ ((True) ∧ ((True) ∧ (True)))))) := ⟨trivial, ⟨⟨⟨trivial, ⟨trivial, trivial⟩⟩, F96_ok n (2 : Int) p_Status y_12 hx31⟩, ⟨trivial, ⟨⟨trivial, c32⟩, ⟨trivial, ⟨trivial, trivial⟩⟩⟩⟩⟩⟩
            refine TS.reg [.none, (.call (.bool y_12) []), .none, .dec true] ?_ ?_
            · apply prop_of ?_ hq
              kernel_rfl
            refine XS.then ?_
            refine TS.ret ?_
            obtain rfl : true = r := Option.some.inj h
            exact XS.fin [] ((True) ∧ (True)) (by kernel_rfl) ⟨trivial, trivial⟩
          · obtain ⟨y_13, hx34, h⟩ := bind_some' h
            have hq : (True) ∧ ((((True) ∧ ((True) ∧ (True))) ∧ PureC Try.prog 96 [(.int .i64 (2 : Int)), (.pv (.int .i64 p_Status))] (.bool y_12) []) ∧ ((True) ∧ (((True) ∧ (!y_12) = false) ∧ ((True) ∧ ((((True) ∧ ((True) ∧ (True))) ∧ PureC Try.prog 96 [(.int .i64 (16 : Int)), (.pv (.int .i64 p_Status))] (.bool y_13) []) ∧ ((True) ∧ ((True) ∧ ((True) ∧ (True))))))))) := ⟨trivial, ⟨⟨⟨trivial, ⟨trivial, trivial⟩⟩, F96_ok n (2 : Int) p_Status y_12 hx31⟩, ⟨trivial, ⟨⟨trivial, c33⟩, ⟨trivial, ⟨⟨⟨trivial, ⟨trivial, trivial⟩⟩, F96_ok n (16 : Int) p_Status y_13 hx34⟩, ⟨trivial, ⟨trivial, ⟨trivial, trivial⟩⟩⟩⟩⟩⟩⟩⟩⟩
            refine TS.reg [.none, (.call (.bool y_12) []), .none, .dec false, .none, (.call (.bool y_13) [])] ?_ ?_
            · apply prop_of ?_ hq
              kernel_rfl
            refine XS.then ?_
            refine TS.ret ?_
            obtain rfl : (!y_13) = r := Option.some.inj h
            exact XS.fin [] ((True) ∧ (True)) (by kernel_rfl) ⟨trivial, trivial⟩
  · rcases bif_some h with ⟨c35, h⟩ | ⟨c36, h⟩
    · have hq : (True) ∧ ((True) ∧ (((True) ∧ (decide (p_Status < (0 : Int))) = true) ∧ ((True) ∧ ((True) ∧ ((True) ∧ ((True) ∧ ((True) ∧ ((True) ∧ (True))))))))) := ⟨trivial, ⟨trivial, ⟨⟨trivial, c35⟩, ⟨trivial, ⟨trivial, ⟨trivial, ⟨trivial, ⟨trivial, ⟨trivial, trivial⟩⟩⟩⟩⟩⟩⟩⟩⟩
      refine TS.reg [.none, .none, .dec true] ?_ ?_
      · apply prop_of ?_ hq
        kernel_rfl
      refine XS.reAny [1] (mkMask 52 [4, 8]) true h ?_
      kernel_rfl
    · rcases bif_some h with ⟨c37, h⟩ | ⟨c38, h⟩
      · have hq : (True) ∧ ((True) ∧ (((True) ∧ (decide (p_Status < (0 : Int))) = false) ∧ ((True) ∧ ((True) ∧ ((True) ∧ ((True) ∧ (((True) ∧ ((bitsI .andNot .i64 p_Status (275 : Int)) != (0 : Int)) = true) ∧ ((True) ∧ ((True) ∧ ((True) ∧ ((True) ∧ (True)))))))))))) := ⟨trivial, ⟨trivial, ⟨⟨trivial, c36⟩, ⟨trivial, ⟨trivial, ⟨trivial, ⟨trivial, ⟨⟨trivial, c37⟩, ⟨trivial, ⟨trivial, ⟨trivial, ⟨trivial, trivial⟩⟩⟩⟩⟩⟩⟩⟩⟩⟩⟩⟩
        refine TS.reg [.none, .none, .dec false, .none, .none, .none, .none, .dec true] ?_ ?_
        · apply prop_of ?_ hq
          kernel_rfl
        refine XS.reAny [1] (mkMask 52 [4, 8]) true h ?_
        kernel_rfl
      · rcases bif_some h with ⟨c39, h⟩ | ⟨c40, h⟩
        · have hq : (True) ∧ ((True) ∧ (((True) ∧ (decide (p_Status < (0 : Int))) = false) ∧ ((True) ∧ ((True) ∧ ((True) ∧ ((True) ∧ (((True) ∧ ((bitsI .andNot .i64 p_Status (275 : Int)) != (0 : Int)) = false) ∧ ((True) ∧ ((True) ∧ ((True) ∧ ((True) ∧ (((True) ∧ (decide (p_Change < (0 : Int))) = true) ∧ ((True) ∧ ((True) ∧ (True))))))))))))))) := ⟨trivial, ⟨trivial, ⟨⟨trivial, c36⟩, ⟨trivial, ⟨trivial, ⟨trivial, ⟨trivial, ⟨⟨trivial, c38⟩, ⟨trivial, ⟨trivial, ⟨trivial, ⟨trivial, ⟨⟨trivial, c39⟩, ⟨trivial, ⟨trivial, trivial⟩⟩⟩⟩⟩⟩⟩⟩⟩⟩⟩⟩⟩⟩⟩
          refine TS.reg [.none, .none, .dec false, .none, .none, .none, .none, .dec false, .none, .none, .none, .none, .dec true] ?_ ?_
          · apply prop_of ?_ hq
            kernel_rfl
          refine XS.reAny [1] (mkMask 52 [4, 8]) true h ?_
          kernel_rfl
        · have hq : (True) ∧ ((True) ∧ (((True) ∧ (decide (p_Status < (0 : Int))) = false) ∧ ((True) ∧ ((True) ∧ ((True) ∧ ((True) ∧ (((True) ∧ ((bitsI .andNot .i64 p_Status (275 : Int)) != (0 : Int)) = false) ∧ ((True) ∧ ((True) ∧ ((True) ∧ ((True) ∧ (((True) ∧ (decide (p_Change < (0 : Int))) = false) ∧ ((True) ∧ ((True) ∧ ((True) ∧ ((True) ∧ ((True) ∧ ((True) ∧ (True))))))))))))))))))) := ⟨trivial, ⟨trivial, ⟨⟨trivial, c36⟩, ⟨trivial, ⟨trivial, ⟨trivial, ⟨trivial, ⟨⟨trivial, c38⟩, ⟨trivial, ⟨trivial, ⟨trivial, ⟨trivial, ⟨⟨trivial, c40⟩, ⟨trivial, ⟨trivial, ⟨trivial, ⟨trivial, ⟨trivial, ⟨trivial, trivial⟩⟩⟩⟩⟩⟩⟩⟩⟩⟩⟩⟩⟩⟩⟩⟩⟩⟩⟩
          refine TS.reg [.none, .none, .dec false, .none, .none, .none, .none, .dec false, .none, .none, .none, .none, .dec false] ?_ ?_
          · apply prop_of ?_ hq
            kernel_rfl
          refine XS.reAny [1] (mkMask 52 [4, 8]) ((bitsI .andNot .i64 p_Change (19 : Int)) != (0 : Int)) h ?_
          kernel_rfl

/-! plugtree/hub.Check -/
def F45_l2 (n : Nat) (h_Count : Int) (h_Ports : List (Int × Int)) (k45_2 : Int → Option Int) : Int → Option Int
  | x => (bif (decide (x < (16 : Int))) then (bif inb x 16 then (bif (x == (0 : Int)) then (bif (!(Sh.beq (.st (.pair (.int .i64) (.int .i64))) ((h_Ports.getD x.toNat ((0 : Int), (0 : Int))).1, (h_Ports.getD x.toNat ((0 : Int), (0 : Int))).2) ((0 : Int), (0 : Int)))) then (some (4 : Int)) else ((F82 n ((h_Ports.getD x.toNat ((0 : Int), (0 : Int))).1) ((h_Ports.getD x.toNat ((0 : Int), (0 : Int))).2)).bind fun y_2 => (bif (!y_2) then (some (4 : Int)) else (k45_2 (IntKind.wrap .i64 (x + (1 : Int))))))) else (bif (decide (x > h_Count)) then (bif (!(Sh.beq (.st (.pair (.int .i64) (.int .i64))) ((h_Ports.getD x.toNat ((0 : Int), (0 : Int))).1, (h_Ports.getD x.toNat ((0 : Int), (0 : Int))).2) ((0 : Int), (0 : Int)))) then (some (4 : Int)) else ((F82 n ((h_Ports.getD x.toNat ((0 : Int), (0 : Int))).1) ((h_Ports.getD x.toNat ((0 : Int), (0 : Int))).2)).bind fun y_3 => (bif (!y_3) then (some (4 : Int)) else (k45_2 (IntKind.wrap .i64 (x + (1 : Int))))))) else ((F82 n ((h_Ports.getD x.toNat ((0 : Int), (0 : Int))).1) ((h_Ports.getD x.toNat ((0 : Int), (0 : Int))).2)).bind fun y_4 => (bif (!y_4) then (some (4 : Int)) else (k45_2 (IntKind.wrap .i64 (x + (1 : Int)))))))) else none) else (some (0 : Int)))
def F45 (n : Nat) (h_Count : Int) (h_Ports : List (Int × Int)) : Option Int := (bif (decide (h_Count < (1 : Int))) then (some (1 : Int)) else (bif (decide (h_Count > (15 : Int))) then (some (1 : Int)) else (loopF (F45_l2 n h_Count h_Ports) n (0 : Int))))
theorem F45_ok (n : Nat) (h_Count : Int) (h_Ports : List (Int × Int)) (r : Int) (h : F45 n h_Count h_Ports = some r) : PureC Try.prog 45 [(.st (.cons (.int .i64 h_Count) (.arr 16 (.st (.pair (.int .i64) (.int .i64))) h_Ports)))] (.int .i64 r) [] := by
  refine PureC.mkS Try.func45 rfl rfl ?_
  intro w0 fz0 hfz
  replace h : (bif (decide (h_Count < (1 : Int))) then (some (1 : Int)) else (bif (decide (h_Count > (15 : Int))) then (some (1 : Int)) else (loopF (F45_l2 n h_Count h_Ports) n (0 : Int)))) = some r := h
  refine TS.seq ?_
  have hq : (True) ∧ ((True) ∧ (True)) := ⟨trivial, ⟨trivial, trivial⟩⟩
  refine TS.reg [] ?_ ?_
  · apply prop_of ?_ hq
    kernel_rfl
  refine XS.then ?_
  refine TS.seq ?_
  refine TS.seq ?_
  rcases bif_some h with ⟨c1, h⟩ | ⟨c2, h⟩
  · have hq : (True) ∧ ((True) ∧ ((True) ∧ (((True) ∧ (decide (h_Count < (1 : Int))) = true) ∧ ((True) ∧ (True))))) := ⟨trivial, ⟨trivial, ⟨trivial, ⟨⟨trivial, c1⟩, ⟨trivial, trivial⟩⟩⟩⟩⟩
    refine TS.reg [.none, .none, .none, .dec true] ?_ ?_
    · apply prop_of ?_ hq
      kernel_rfl
    refine XS.then ?_
    refine TS.yes ?_ ?_
    · kernel_rfl
    refine TS.seq ?_
    have hq : (True) ∧ (True) := ⟨trivial, trivial⟩
    refine TS.reg [] ?_ ?_
    · apply prop_of ?_ hq
      kernel_rfl
    refine XS.then ?_
    refine TS.ret ?_
    refine XS.passR ?_
    obtain rfl : (1 : Int) = r := Option.some.inj h
    exact XS.fin [] ((True) ∧ (True)) (by kernel_rfl) ⟨trivial, trivial⟩
  · have hq : (True) ∧ ((True) ∧ ((True) ∧ (((True) ∧ (decide (h_Count < (1 : Int))) = false) ∧ ((True) ∧ ((True) ∧ ((True) ∧ ((True) ∧ (True)))))))) := ⟨trivial, ⟨trivial, ⟨trivial, ⟨⟨trivial, c2⟩, ⟨trivial, ⟨trivial, ⟨trivial, ⟨trivial, trivial⟩⟩⟩⟩⟩⟩⟩⟩
    refine TS.reg [.none, .none, .none, .dec false] ?_ ?_
    · apply prop_of ?_ hq
      kernel_rfl
    refine XS.then ?_
    rcases bif_some h with ⟨c3, h⟩ | ⟨c4, h⟩
    · refine TS.cond (decide (h_Count > (15 : Int))) ?_ (fun e => ?_) (fun e => by rw [c3] at e; cases e)
      · kernel_rfl
      refine TS.seq ?_
      have hq : (True) ∧ (True) := ⟨trivial, trivial⟩
      refine TS.reg [] ?_ ?_
      · apply prop_of ?_ hq
        kernel_rfl
      refine XS.then ?_
      refine TS.ret ?_
      refine XS.passR ?_
      obtain rfl : (1 : Int) = r := Option.some.inj h
      exact XS.fin [] ((True) ∧ (True)) (by kernel_rfl) ⟨trivial, trivial⟩
    · refine TS.cond (decide (h_Count > (15 : Int))) ?_ (fun e => by rw [c4] at e; cases e) (fun e => ?_)
      · kernel_rfl
      refine TS.skip ?_
      refine XS.then ?_
      refine TS.seq ?_
      refine TS.seq ?_
      have hq : (True) ∧ ((True) ∧ ((True) ∧ (True))) := ⟨trivial, ⟨trivial, ⟨trivial, trivial⟩⟩⟩
      refine TS.reg [] ?_ ?_
      · apply prop_of ?_ hq
        kernel_rfl
      refine XS.then ?_
      refine TS.block ?_
      refine TS.reLoop [0] (mkMask 38 [1, 14, 15]) (D := Int) (fun d => match d with | x => (mkTs 38 [(1, (.ptr 0 [])), (14, (.arr 16 (.st (.pair (.int .i64) (.int .i64))) h_Ports)), (15, (.int .i64 x))], [(.box 70 (.st (.cons (.int .i64 h_Count) (.arr 16 (.st (.pair (.int .i64) (.int .i64))) h_Ports))))])) (fun n' d => loopF (F45_l2 n h_Count h_Ports) n' d = some r) n (0 : Int) h ?_ (fun d => loopF_zero _ d r) ?_
      · kernel_rfl
      · rintro n2 x h
        replace h : (bif (decide (x < (16 : Int))) then (bif inb x 16 then (bif (x == (0 : Int)) then (bif (!(Sh.beq (.st (.pair (.int .i64) (.int .i64))) ((h_Ports.getD x.toNat ((0 : Int), (0 : Int))).1, (h_Ports.getD x.toNat ((0 : Int), (0 : Int))).2) ((0 : Int), (0 : Int)))) then (some (4 : Int)) else ((F82 n ((h_Ports.getD x.toNat ((0 : Int), (0 : Int))).1) ((h_Ports.getD x.toNat ((0 : Int), (0 : Int))).2)).bind fun y_2 => (bif (!y_2) then (some (4 : Int)) else ((loopF (F45_l2 n h_Count h_Ports) n2) (IntKind.wrap .i64 (x + (1 : Int))))))) else (bif (decide (x > h_Count)) then (bif (!(Sh.beq (.st (.pair (.int .i64) (.int .i64))) ((h_Ports.getD x.toNat ((0 : Int), (0 : Int))).1, (h_Ports.getD x.toNat ((0 : Int), (0 : Int))).2) ((0 : Int), (0 : Int)))) then (some (4 : Int)) else ((F82 n ((h_Ports.getD x.toNat ((0 : Int), (0 : Int))).1) ((h_Ports.getD x.toNat ((0 : Int), (0 : Int))).2)).bind fun y_3 => (bif (!y_3) then (some (4 : Int)) else ((loopF (F45_l2 n h_Count h_Ports) n2) (IntKind.wrap .i64 (x + (1 : Int))))))) else ((F82 n ((h_Ports.getD x.toNat ((0 : Int), (0 : Int))).1) ((h_Ports.getD x.toNat ((0 : Int), (0 : Int))).2)).bind fun y_4 => (bif (!y_4) then (some (4 : Int)) else ((loopF (F45_l2 n h_Count h_Ports) n2) (IntKind.wrap .i64 (x + (1 : Int)))))))) else none) else (some (0 : Int))) = some r := h
        refine TS.seq ?_
        have hq : (True) ∧ (True) := ⟨trivial, trivial⟩
        refine TS.reg [] ?_ ?_
        · apply prop_of ?_ hq
          kernel_rfl
        refine XS.then ?_
        refine TS.seq ?_
        rcases bif_some h with ⟨c5, h⟩ | ⟨c6, h⟩
        · refine TS.cond (decide (x < (16 : Int))) ?_ (fun e => ?_) (fun e => by rw [c5] at e; cases e)
          · kernel_rfl
          refine TS.skip ?_
          refine XS.then ?_
          refine TS.seq ?_
          refine TS.block ?_
          refine TS.seq ?_
          obtain ⟨t7, h⟩ := test_some h
          have hq : (True) ∧ ((inR x 16) ∧ ((True) ∧ ((True) ∧ ((True) ∧ (True))))) := ⟨trivial, ⟨inb_ok t7, ⟨trivial, ⟨trivial, ⟨trivial, trivial⟩⟩⟩⟩⟩
          refine TS.reg [] ?_ ?_
          · apply prop_of ?_ hq
            kernel_rfl
          refine XS.then ?_
          refine TS.seq ?_
          rcases bif_some h with ⟨c8, h⟩ | ⟨c9, h⟩
          · rcases bif_some h with ⟨c10, h⟩ | ⟨c11, h⟩
            · have hq : (True) ∧ ((True) ∧ (((True) ∧ (x == (0 : Int)) = true) ∧ ((True) ∧ ((True) ∧ ((True) ∧ ((True) ∧ ((True) ∧ ((True) ∧ (((True) ∧ (!(Sh.beq (.st (.pair (.int .i64) (.int .i64))) ((h_Ports.getD x.toNat ((0 : Int), (0 : Int))).1, (h_Ports.getD x.toNat ((0 : Int), (0 : Int))).2) ((0 : Int), (0 : Int)))) = true) ∧ ((True) ∧ (True))))))))))) := ⟨trivial, ⟨trivial, ⟨⟨trivial, c8⟩, ⟨trivial, ⟨trivial, ⟨trivial, ⟨trivial, ⟨trivial, ⟨trivial, ⟨⟨trivial, c10⟩, ⟨trivial, trivial⟩⟩⟩⟩⟩⟩⟩⟩⟩⟩⟩
              refine TS.reg [.none, .none, .dec true, .none, .none, .none, .none, .none, .none, .none, .none, .none, .none, .dec true] ?_ ?_
              · apply prop_of ?_ hq
                kernel_rfl
              refine XS.then ?_
              refine TS.yes ?_ ?_
              · kernel_rfl
              refine TS.seq ?_
              have hq : (True) ∧ (True) := ⟨trivial, trivial⟩
              refine TS.reg [] ?_ ?_
              · apply prop_of ?_ hq
                kernel_rfl
              refine XS.then ?_
              refine TS.ret ?_
              refine XS.blockRet ?_
              refine XS.passR ?_
              refine XS.passR ?_
              refine XS.blockRet ?_
              refine XS.passR ?_
              obtain rfl : (4 : Int) = r := Option.some.inj h
              exact XS.fin [] ((True) ∧ (True)) (by kernel_rfl) ⟨trivial, trivial⟩
            · obtain ⟨y_2, hx12, h⟩ := bind_some' h
              have hq : (True) ∧ ((True) ∧ (((True) ∧ (x == (0 : Int)) = true) ∧ ((True) ∧ ((True) ∧ ((True) ∧ ((True) ∧ ((True) ∧ ((True) ∧ (((True) ∧ (!(Sh.beq (.st (.pair (.int .i64) (.int .i64))) ((h_Ports.getD x.toNat ((0 : Int), (0 : Int))).1, (h_Ports.getD x.toNat ((0 : Int), (0 : Int))).2) ((0 : Int), (0 : Int)))) = false) ∧ ((True) ∧ ((PureC Try.prog 82 [(.st (.cons (.int .i64 (h_Ports.getD x.toNat ((0 : Int), (0 : Int))).1) (.int .i64 (h_Ports.getD x.toNat ((0 : Int), (0 : Int))).2)))] (.bool y_2) []) ∧ ((True) ∧ ((True) ∧ (True)))))))))))))) := ⟨trivial, ⟨trivial, ⟨⟨trivial, c8⟩, ⟨trivial, ⟨trivial, ⟨trivial, ⟨trivial, ⟨trivial, ⟨trivial, ⟨⟨trivial, c11⟩, ⟨trivial, ⟨F82_ok n ((h_Ports.getD x.toNat ((0 : Int), (0 : Int))).1) ((h_Ports.getD x.toNat ((0 : Int), (0 : Int))).2) y_2 hx12, ⟨trivial, ⟨trivial, trivial⟩⟩⟩⟩⟩⟩⟩⟩⟩⟩⟩⟩⟩⟩
              refine TS.reg [.none, .none, .dec true, .none, .none, .none, .none, .none, .none, .none, .none, .none, .none, .dec false, .none, (.call (.bool y_2) [])] ?_ ?_
              · apply prop_of ?_ hq
                kernel_rfl
              refine XS.then ?_
              rcases bif_some h with ⟨c13, h⟩ | ⟨c14, h⟩
              · refine TS.cond (!y_2) ?_ (fun e => ?_) (fun e => by rw [c13] at e; cases e)
                · kernel_rfl
                refine TS.seq ?_
                have hq : (True) ∧ (True) := ⟨trivial, trivial⟩
                refine TS.reg [] ?_ ?_
                · apply prop_of ?_ hq
                  kernel_rfl
                refine XS.then ?_
                refine TS.ret ?_
                refine XS.blockRet ?_
                refine XS.passR ?_
                refine XS.passR ?_
                refine XS.blockRet ?_
                refine XS.passR ?_
                obtain rfl : (4 : Int) = r := Option.some.inj h
                exact XS.fin [] ((True) ∧ (True)) (by kernel_rfl) ⟨trivial, trivial⟩
              · refine TS.cond (!y_2) ?_ (fun e => by rw [c14] at e; cases e) (fun e => ?_)
                · kernel_rfl
                refine TS.skip ?_
                refine XS.blockEnd ?_
                refine XS.then ?_
                have hq : (True) ∧ ((True) ∧ (True)) := ⟨trivial, ⟨trivial, trivial⟩⟩
                refine TS.reg [] ?_ ?_
                · apply prop_of ?_ hq
                  kernel_rfl
                refine XS.reAny [0] (mkMask 38 [1, 14, 15]) (IntKind.wrap .i64 (x + (1 : Int))) h ?_
                kernel_rfl
          · rcases bif_some h with ⟨c15, h⟩ | ⟨c16, h⟩
            · rcases bif_some h with ⟨c17, h⟩ | ⟨c18, h⟩
              · have hq : (True) ∧ ((True) ∧ (((True) ∧ (x == (0 : Int)) = false) ∧ ((True) ∧ ((True) ∧ ((True) ∧ ((True) ∧ ((True) ∧ (((True) ∧ (decide (x > h_Count)) = true) ∧ ((True) ∧ ((True) ∧ ((True) ∧ ((True) ∧ (((True) ∧ (!(Sh.beq (.st (.pair (.int .i64) (.int .i64))) ((h_Ports.getD x.toNat ((0 : Int), (0 : Int))).1, (h_Ports.getD x.toNat ((0 : Int), (0 : Int))).2) ((0 : Int), (0 : Int)))) = true) ∧ ((True) ∧ (True))))))))))))))) := ⟨trivial, ⟨trivial, ⟨⟨trivial, c9⟩, ⟨trivial, ⟨trivial, ⟨trivial, ⟨trivial, ⟨trivial, ⟨⟨trivial, c15⟩, ⟨trivial, ⟨trivial, ⟨trivial, ⟨trivial, ⟨⟨trivial, c17⟩, ⟨trivial, trivial⟩⟩⟩⟩⟩⟩⟩⟩⟩⟩⟩⟩⟩⟩⟩
                refine TS.reg [.none, .none, .dec false, .none, .none, .none, .none, .none, .dec true, .none, .none, .none, .none, .dec true] ?_ ?_
                · apply prop_of ?_ hq
                  kernel_rfl
                refine XS.then ?_
                refine TS.yes ?_ ?_
                · kernel_rfl
                refine TS.seq ?_
                have hq : (True) ∧ (True) := ⟨trivial, trivial⟩
                refine TS.reg [] ?_ ?_
                · apply prop_of ?_ hq
                  kernel_rfl
                refine XS.then ?_
                refine TS.ret ?_
                refine XS.blockRet ?_
                refine XS.passR ?_
                refine XS.passR ?_
                refine XS.blockRet ?_
                refine XS.passR ?_
                obtain rfl : (4 : Int) = r := Option.some.inj h
                exact XS.fin [] ((True) ∧ (True)) (by kernel_rfl) ⟨trivial, trivial⟩
              · obtain ⟨y_3, hx19, h⟩ := bind_some' h
                have hq : (True) ∧ ((True) ∧ (((True) ∧ (x == (0 : Int)) = false) ∧ ((True) ∧ ((True) ∧ ((True) ∧ ((True) ∧ ((True) ∧ (((True) ∧ (decide (x > h_Count)) = true) ∧ ((True) ∧ ((True) ∧ ((True) ∧ ((True) ∧ (((True) ∧ (!(Sh.beq (.st (.pair (.int .i64) (.int .i64))) ((h_Ports.getD x.toNat ((0 : Int), (0 : Int))).1, (h_Ports.getD x.toNat ((0 : Int), (0 : Int))).2) ((0 : Int), (0 : Int)))) = false) ∧ ((True) ∧ ((PureC Try.prog 82 [(.st (.cons (.int .i64 (h_Ports.getD x.toNat ((0 : Int), (0 : Int))).1) (.int .i64 (h_Ports.getD x.toNat ((0 : Int), (0 : Int))).2)))] (.bool y_3) []) ∧ ((True) ∧ ((True) ∧ (True)))))))))))))))))) := ⟨trivial, ⟨trivial, ⟨⟨trivial, c9⟩, ⟨trivial, ⟨trivial, ⟨trivial, ⟨trivial, ⟨trivial, ⟨⟨trivial, c15⟩, ⟨trivial, ⟨trivial, ⟨trivial, ⟨trivial, ⟨⟨trivial, c18⟩, ⟨trivial, ⟨F82_ok n ((h_Ports.getD x.toNat ((0 : Int), (0 : Int))).1) ((h_Ports.getD x.toNat ((0 : Int), (0 : Int))).2) y_3 hx19, ⟨trivial, ⟨trivial, trivial⟩⟩⟩⟩⟩⟩⟩⟩⟩⟩⟩⟩⟩⟩⟩⟩⟩⟩
                refine TS.reg [.none, .none, .dec false, .none, .none, .none, .none, .none, .dec true, .none, .none, .none, .none, .dec false, .none, (.call (.bool y_3) [])] ?_ ?_
                · apply prop_of ?_ hq
                  kernel_rfl
                refine XS.then ?_
                rcases bif_some h with ⟨c20, h⟩ | ⟨c21, h⟩
                · refine TS.cond (!y_3) ?_ (fun e => ?_) (fun e => by rw [c20] at e; cases e)
                  · kernel_rfl
                  refine TS.seq ?_
                  have hq : (True) ∧ (True) := ⟨trivial, trivial⟩
                  refine TS.reg [] ?_ ?_
                  · apply prop_of ?_ hq
                    kernel_rfl
                  refine XS.then ?_
                  refine TS.ret ?_
                  refine XS.blockRet ?_
                  refine XS.passR ?_
                  refine XS.passR ?_
                  refine XS.blockRet ?_
                  refine XS.passR ?_
                  obtain rfl : (4 : Int) = r := Option.some.inj h
                  exact XS.fin [] ((True) ∧ (True)) (by kernel_rfl) ⟨trivial, trivial⟩
                · refine TS.cond (!y_3) ?_ (fun e => by rw [c21] at e; cases e) (fun e => ?_)
                  · kernel_rfl
                  refine TS.skip ?_
                  refine XS.blockEnd ?_
                  refine XS.then ?_
                  have hq : (True) ∧ ((True) ∧ (True)) := ⟨trivial, ⟨trivial, trivial⟩⟩
                  refine TS.reg [] ?_ ?_
                  · apply prop_of ?_ hq
                    kernel_rfl
                  refine XS.reAny [0] (mkMask 38 [1, 14, 15]) (IntKind.wrap .i64 (x + (1 : Int))) h ?_
                  kernel_rfl
            · obtain ⟨y_4, hx22, h⟩ := bind_some' h
              have hq : (True) ∧ ((True) ∧ (((True) ∧ (x == (0 : Int)) = false) ∧ ((True) ∧ ((True) ∧ ((True) ∧ ((True) ∧ ((True) ∧ (((True) ∧ (decide (x > h_Count)) = false) ∧ ((True) ∧ ((True) ∧ ((True) ∧ ((PureC Try.prog 82 [(.st (.cons (.int .i64 (h_Ports.getD x.toNat ((0 : Int), (0 : Int))).1) (.int .i64 (h_Ports.getD x.toNat ((0 : Int), (0 : Int))).2)))] (.bool y_4) []) ∧ ((True) ∧ ((True) ∧ (True))))))))))))))) := ⟨trivial, ⟨trivial, ⟨⟨trivial, c9⟩, ⟨trivial, ⟨trivial, ⟨trivial, ⟨trivial, ⟨trivial, ⟨⟨trivial, c16⟩, ⟨trivial, ⟨trivial, ⟨trivial, ⟨F82_ok n ((h_Ports.getD x.toNat ((0 : Int), (0 : Int))).1) ((h_Ports.getD x.toNat ((0 : Int), (0 : Int))).2) y_4 hx22, ⟨trivial, ⟨trivial, trivial⟩⟩⟩⟩⟩⟩⟩⟩⟩⟩⟩⟩⟩⟩⟩
              refine TS.reg [.none, .none, .dec false, .none, .none, .none, .none, .none, .dec false, .none, .none, .none, .none, .none, .none, (.call (.bool y_4) [])] ?_ ?_
              · apply prop_of ?_ hq
                kernel_rfl
              refine XS.then ?_
              rcases bif_some h with ⟨c23, h⟩ | ⟨c24, h⟩
              · refine TS.cond (!y_4) ?_ (fun e => ?_) (fun e => by rw [c23] at e; cases e)
                · kernel_rfl
                refine TS.seq ?_
                have hq : (True) ∧ (True) := ⟨trivial, trivial⟩
                refine TS.reg [] ?_ ?_
                · apply prop_of ?_ hq
                  kernel_rfl
                refine XS.then ?_
                refine TS.ret ?_
                refine XS.blockRet ?_
                refine XS.passR ?_
                refine XS.passR ?_
                refine XS.blockRet ?_
                refine XS.passR ?_
                obtain rfl : (4 : Int) = r := Option.some.inj h
                exact XS.fin [] ((True) ∧ (True)) (by kernel_rfl) ⟨trivial, trivial⟩
              · refine TS.cond (!y_4) ?_ (fun e => by rw [c24] at e; cases e) (fun e => ?_)
                · kernel_rfl
                refine TS.skip ?_
                refine XS.blockEnd ?_
                refine XS.then ?_
                have hq : (True) ∧ ((True) ∧ (True)) := ⟨trivial, ⟨trivial, trivial⟩⟩
                refine TS.reg [] ?_ ?_
                · apply prop_of ?_ hq
                  kernel_rfl
                refine XS.reAny [0] (mkMask 38 [1, 14, 15]) (IntKind.wrap .i64 (x + (1 : Int))) h ?_
                kernel_rfl
        · refine TS.cond (decide (x < (16 : Int))) ?_ (fun e => by rw [c6] at e; cases e) (fun e => ?_)
          · kernel_rfl
          refine TS.exit ?_
          refine XS.passE ?_
          refine XS.passE ?_
          refine XS.out ?_
          refine XS.then ?_
          refine TS.seq ?_
          have hq : (True) ∧ (True) := ⟨trivial, trivial⟩
          refine TS.reg [] ?_ ?_
          · apply prop_of ?_ hq
            kernel_rfl
          refine XS.then ?_
          refine TS.ret ?_
          obtain rfl : (0 : Int) = r := Option.some.inj h
          exact XS.fin [] ((True) ∧ (True)) (by kernel_rfl) ⟨trivial, trivial⟩

/-! plugtree/hub.Plug -/
def F41 (n : Nat) (h_Count : Int) (h_Ports : List (Int × Int)) (port : Int) (there : Bool) : Option (Int × (List (Int × Int)) × Int) := ((F45 n h_Count h_Ports).bind fun y_4 => (bif (y_4 != (0 : Int)) then (some (h_Count, h_Ports, y_4)) else (bif (decide (port < (1 : Int))) then (some (h_Count, h_Ports, (12 : Int))) else (bif (decide (port > h_Count)) then (some (h_Count, h_Ports, (12 : Int))) else (bif inb port 16 then (bif ((bitsI .and .i64 ((h_Ports.getD port.toNat ((0 : Int), (0 : Int))).1) (256 : Int)) == (0 : Int)) then (some (h_Count, h_Ports, (8 : Int))) else (bif there then (bif (!((bitsI .and .i64 ((h_Ports.getD port.toNat ((0 : Int), (0 : Int))).1) (1 : Int)) != (0 : Int))) then (some (h_Count, ((h_Ports.set port.toNat ((bitsI .or .i64 ((h_Ports.getD port.toNat ((0 : Int), (0 : Int))).1) (1 : Int)), (h_Ports.getD port.toNat ((0 : Int), (0 : Int))).2)).set port.toNat (((h_Ports.set port.toNat ((bitsI .or .i64 ((h_Ports.getD port.toNat ((0 : Int), (0 : Int))).1) (1 : Int)), (h_Ports.getD port.toNat ((0 : Int), (0 : Int))).2)).getD port.toNat ((0 : Int), (0 : Int))).1, (bitsI .or .i64 (((h_Ports.set port.toNat ((bitsI .or .i64 ((h_Ports.getD port.toNat ((0 : Int), (0 : Int))).1) (1 : Int)), (h_Ports.getD port.toNat ((0 : Int), (0 : Int))).2)).getD port.toNat ((0 : Int), (0 : Int))).2) (1 : Int)))), (0 : Int))) else (bif (!there) then (bif ((bitsI .and .i64 ((h_Ports.getD port.toNat ((0 : Int), (0 : Int))).1) (1 : Int)) != (0 : Int)) then (some (h_Count, ((h_Ports.set port.toNat ((h_Ports.getD port.toNat ((0 : Int), (0 : Int))).1, (bitsI .or .i64 ((h_Ports.getD port.toNat ((0 : Int), (0 : Int))).2) (bitsI .or .i64 (1 : Int) (bitsI .and .i64 ((h_Ports.getD port.toNat ((0 : Int), (0 : Int))).1) (2 : Int)))))).set port.toNat ((256 : Int), ((h_Ports.set port.toNat ((h_Ports.getD port.toNat ((0 : Int), (0 : Int))).1, (bitsI .or .i64 ((h_Ports.getD port.toNat ((0 : Int), (0 : Int))).2) (bitsI .or .i64 (1 : Int) (bitsI .and .i64 ((h_Ports.getD port.toNat ((0 : Int), (0 : Int))).1) (2 : Int)))))).getD port.toNat ((0 : Int), (0 : Int))).2)), (0 : Int))) else (some (h_Count, h_Ports, (0 : Int)))) else (some (h_Count, h_Ports, (0 : Int))))) else (bif (!there) then (bif ((bitsI .and .i64 ((h_Ports.getD port.toNat ((0 : Int), (0 : Int))).1) (1 : Int)) != (0 : Int)) then (some (h_Count, ((h_Ports.set port.toNat ((h_Ports.getD port.toNat ((0 : Int), (0 : Int))).1, (bitsI .or .i64 ((h_Ports.getD port.toNat ((0 : Int), (0 : Int))).2) (bitsI .or .i64 (1 : Int) (bitsI .and .i64 ((h_Ports.getD port.toNat ((0 : Int), (0 : Int))).1) (2 : Int)))))).set port.toNat ((256 : Int), ((h_Ports.set port.toNat ((h_Ports.getD port.toNat ((0 : Int), (0 : Int))).1, (bitsI .or .i64 ((h_Ports.getD port.toNat ((0 : Int), (0 : Int))).2) (bitsI .or .i64 (1 : Int) (bitsI .and .i64 ((h_Ports.getD port.toNat ((0 : Int), (0 : Int))).1) (2 : Int)))))).getD port.toNat ((0 : Int), (0 : Int))).2)), (0 : Int))) else (some (h_Count, h_Ports, (0 : Int)))) else (some (h_Count, h_Ports, (0 : Int)))))) else none)))))
theorem F41_ok (n : Nat) (h_Count : Int) (h_Ports : List (Int × Int)) (port : Int) (there : Bool) (r : Int × (List (Int × Int)) × Int) (h : F41 n h_Count h_Ports port there = some r) : PureC Try.prog 41 [(.st (.cons (.int .i64 h_Count) (.arr 16 (.st (.pair (.int .i64) (.int .i64))) h_Ports))), (.int .i64 port), (.bool there)] (.tup (.cons (.st (.cons (.int .i64 r.1) (.arr 16 (.st (.pair (.int .i64) (.int .i64))) r.2.1))) (.cons (.int .i64 r.2.2) .nil))) [] := by
  refine PureC.mkS Try.func41 rfl rfl ?_
  intro w0 fz0 hfz
  replace h : ((F45 n h_Count h_Ports).bind fun y_4 => (bif (y_4 != (0 : Int)) then (some (h_Count, h_Ports, y_4)) else (bif (decide (port < (1 : Int))) then (some (h_Count, h_Ports, (12 : Int))) else (bif (decide (port > h_Count)) then (some (h_Count, h_Ports, (12 : Int))) else (bif inb port 16 then (bif ((bitsI .and .i64 ((h_Ports.getD port.toNat ((0 : Int), (0 : Int))).1) (256 : Int)) == (0 : Int)) then (some (h_Count, h_Ports, (8 : Int))) else (bif there then (bif (!((bitsI .and .i64 ((h_Ports.getD port.toNat ((0 : Int), (0 : Int))).1) (1 : Int)) != (0 : Int))) then (some (h_Count, ((h_Ports.set port.toNat ((bitsI .or .i64 ((h_Ports.getD port.toNat ((0 : Int), (0 : Int))).1) (1 : Int)), (h_Ports.getD port.toNat ((0 : Int), (0 : Int))).2)).set port.toNat (((h_Ports.set port.toNat ((bitsI .or .i64 ((h_Ports.getD port.toNat ((0 : Int), (0 : Int))).1) (1 : Int)), (h_Ports.getD port.toNat ((0 : Int), (0 : Int))).2)).getD port.toNat ((0 : Int), (0 : Int))).1, (bitsI .or .i64 (((h_Ports.set port.toNat ((bitsI .or .i64 ((h_Ports.getD port.toNat ((0 : Int), (0 : Int))).1) (1 : Int)), (h_Ports.getD port.toNat ((0 : Int), (0 : Int))).2)).getD port.toNat ((0 : Int), (0 : Int))).2) (1 : Int)))), (0 : Int))) else (bif (!there) then (bif ((bitsI .and .i64 ((h_Ports.getD port.toNat ((0 : Int), (0 : Int))).1) (1 : Int)) != (0 : Int)) then (some (h_Count, ((h_Ports.set port.toNat ((h_Ports.getD port.toNat ((0 : Int), (0 : Int))).1, (bitsI .or .i64 ((h_Ports.getD port.toNat ((0 : Int), (0 : Int))).2) (bitsI .or .i64 (1 : Int) (bitsI .and .i64 ((h_Ports.getD port.toNat ((0 : Int), (0 : Int))).1) (2 : Int)))))).set port.toNat ((256 : Int), ((h_Ports.set port.toNat ((h_Ports.getD port.toNat ((0 : Int), (0 : Int))).1, (bitsI .or .i64 ((h_Ports.getD port.toNat ((0 : Int), (0 : Int))).2) (bitsI .or .i64 (1 : Int) (bitsI .and .i64 ((h_Ports.getD port.toNat ((0 : Int), (0 : Int))).1) (2 : Int)))))).getD port.toNat ((0 : Int), (0 : Int))).2)), (0 : Int))) else (some (h_Count, h_Ports, (0 : Int)))) else (some (h_Count, h_Ports, (0 : Int))))) else (bif (!there) then (bif ((bitsI .and .i64 ((h_Ports.getD port.toNat ((0 : Int), (0 : Int))).1) (1 : Int)) != (0 : Int)) then (some (h_Count, ((h_Ports.set port.toNat ((h_Ports.getD port.toNat ((0 : Int), (0 : Int))).1, (bitsI .or .i64 ((h_Ports.getD port.toNat ((0 : Int), (0 : Int))).2) (bitsI .or .i64 (1 : Int) (bitsI .and .i64 ((h_Ports.getD port.toNat ((0 : Int), (0 : Int))).1) (2 : Int)))))).set port.toNat ((256 : Int), ((h_Ports.set port.toNat ((h_Ports.getD port.toNat ((0 : Int), (0 : Int))).1, (bitsI .or .i64 ((h_Ports.getD port.toNat ((0 : Int), (0 : Int))).2) (bitsI .or .i64 (1 : Int) (bitsI .and .i64 ((h_Ports.getD port.toNat ((0 : Int), (0 : Int))).1) (2 : Int)))))).getD port.toNat ((0 : Int), (0 : Int))).2)), (0 : Int))) else (some (h_Count, h_Ports, (0 : Int)))) else (some (h_Count, h_Ports, (0 : Int)))))) else none))))) = some r := h
  refine TS.seq ?_
  have hq : (True) ∧ ((True) ∧ ((True) ∧ (True))) := ⟨trivial, ⟨trivial, ⟨trivial, trivial⟩⟩⟩
  refine TS.reg [] ?_ ?_
  · apply prop_of ?_ hq
    kernel_rfl
  refine XS.then ?_
  refine TS.seq ?_
  refine TS.seq ?_
  obtain ⟨y_4, hx1, h⟩ := bind_some' h
  have hq : (True) ∧ ((PureC Try.prog 45 [(.st (.cons (.int .i64 h_Count) (.arr 16 (.st (.pair (.int .i64) (.int .i64))) h_Ports)))] (.int .i64 y_4) []) ∧ ((True) ∧ (True))) := ⟨trivial, ⟨F45_ok n h_Count h_Ports y_4 hx1, ⟨trivial, trivial⟩⟩⟩
  refine TS.reg [.none, (.call (.int .i64 y_4) [])] ?_ ?_
  · apply prop_of ?_ hq
    kernel_rfl
  refine XS.then ?_
  refine TS.seq ?_
  have hq : (True) ∧ ((True) ∧ (True)) := ⟨trivial, ⟨trivial, trivial⟩⟩
  refine TS.reg [] ?_ ?_
  · apply prop_of ?_ hq
    kernel_rfl
  refine XS.then ?_
  rcases bif_some h with ⟨c2, h⟩ | ⟨c3, h⟩
  · refine TS.cond (y_4 != (0 : Int)) ?_ (fun e => ?_) (fun e => by rw [c2] at e; cases e)
    · kernel_rfl
    refine TS.seq ?_
    have hq : (True) ∧ ((True) ∧ ((True) ∧ ((True) ∧ (True)))) := ⟨trivial, ⟨trivial, ⟨trivial, ⟨trivial, trivial⟩⟩⟩⟩
    refine TS.reg [] ?_ ?_
    · apply prop_of ?_ hq
      kernel_rfl
    refine XS.then ?_
    refine TS.ret ?_
    refine XS.passR ?_
    obtain rfl : (h_Count, h_Ports, y_4) = r := Option.some.inj h
    exact XS.fin [] ((True) ∧ ((True) ∧ (True))) (by kernel_rfl) ⟨trivial, ⟨trivial, trivial⟩⟩
  · refine TS.cond (y_4 != (0 : Int)) ?_ (fun e => by rw [c3] at e; cases e) (fun e => ?_)
    · kernel_rfl
    refine TS.skip ?_
    refine XS.then ?_
    refine TS.seq ?_
    refine TS.seq ?_
    rcases bif_some h with ⟨c4, h⟩ | ⟨c5, h⟩
    · have hq : (True) ∧ ((True) ∧ (((True) ∧ (decide (port < (1 : Int))) = true) ∧ ((True) ∧ (True)))) := ⟨trivial, ⟨trivial, ⟨⟨trivial, c4⟩, ⟨trivial, trivial⟩⟩⟩⟩
      refine TS.reg [.none, .none, .dec true] ?_ ?_
      · apply prop_of ?_ hq
        kernel_rfl
      refine XS.then ?_
      refine TS.yes ?_ ?_
      · kernel_rfl
      refine TS.seq ?_
      have hq : (True) ∧ ((True) ∧ ((True) ∧ (True))) := ⟨trivial, ⟨trivial, ⟨trivial, trivial⟩⟩⟩
      refine TS.reg [] ?_ ?_
      · apply prop_of ?_ hq
        kernel_rfl
      refine XS.then ?_
      refine TS.ret ?_
      refine XS.passR ?_
      obtain rfl : (h_Count, h_Ports, (12 : Int)) = r := Option.some.inj h
      exact XS.fin [] ((True) ∧ ((True) ∧ (True))) (by kernel_rfl) ⟨trivial, ⟨trivial, trivial⟩⟩
    · have hq : (True) ∧ ((True) ∧ (((True) ∧ (decide (port < (1 : Int))) = false) ∧ ((True) ∧ ((True) ∧ ((True) ∧ ((True) ∧ ((True) ∧ (True)))))))) := ⟨trivial, ⟨trivial, ⟨⟨trivial, c5⟩, ⟨trivial, ⟨trivial, ⟨trivial, ⟨trivial, ⟨trivial, trivial⟩⟩⟩⟩⟩⟩⟩⟩
      refine TS.reg [.none, .none, .dec false] ?_ ?_
      · apply prop_of ?_ hq
        kernel_rfl
      refine XS.then ?_
      rcases bif_some h with ⟨c6, h⟩ | ⟨c7, h⟩
      · refine TS.cond (decide (port > h_Count)) ?_ (fun e => ?_) (fun e => by rw [c6] at e; cases e)
        · kernel_rfl
        refine TS.seq ?_
        have hq : (True) ∧ ((True) ∧ ((True) ∧ (True))) := ⟨trivial, ⟨trivial, ⟨trivial, trivial⟩⟩⟩
        refine TS.reg [] ?_ ?_
        · apply prop_of ?_ hq
          kernel_rfl
        refine XS.then ?_
        refine TS.ret ?_
        refine XS.passR ?_
        obtain rfl : (h_Count, h_Ports, (12 : Int)) = r := Option.some.inj h
        exact XS.fin [] ((True) ∧ ((True) ∧ (True))) (by kernel_rfl) ⟨trivial, ⟨trivial, trivial⟩⟩
      · refine TS.cond (decide (port > h_Count)) ?_ (fun e => by rw [c7] at e; cases e) (fun e => ?_)
        · kernel_rfl
        refine TS.skip ?_
        refine XS.then ?_
        refine TS.seq ?_
        obtain ⟨t8, h⟩ := test_some h
        have hq : (True) ∧ ((True) ∧ ((inR port 16) ∧ ((True) ∧ (True)))) := ⟨trivial, ⟨trivial, ⟨inb_ok t8, ⟨trivial, trivial⟩⟩⟩⟩
        refine TS.reg [] ?_ ?_
        · apply prop_of ?_ hq
          kernel_rfl
        refine XS.then ?_
        refine TS.seq ?_
        have hq : (True) ∧ ((True) ∧ ((True) ∧ ((port.toNat < 16 ∧ (True)) ∧ ((True) ∧ ((True) ∧ ((True) ∧ (True))))))) := ⟨trivial, ⟨trivial, ⟨trivial, ⟨⟨inR_lt (inb_ok t8), trivial⟩, ⟨trivial, ⟨trivial, ⟨trivial, trivial⟩⟩⟩⟩⟩⟩⟩
        refine TS.reg [] ?_ ?_
        · apply prop_of ?_ hq
          kernel_rfl
        refine XS.then ?_
        refine TS.seq ?_
        refine TS.block ?_
        refine TS.seq ?_
        have hq : (True) ∧ ((True) ∧ ((True) ∧ ((port.toNat < 16 ∧ (True)) ∧ ((True) ∧ ((True) ∧ ((True) ∧ (True))))))) := ⟨trivial, ⟨trivial, ⟨trivial, ⟨⟨inR_lt (inb_ok t8), trivial⟩, ⟨trivial, ⟨trivial, ⟨trivial, trivial⟩⟩⟩⟩⟩⟩⟩
        refine TS.reg [] ?_ ?_
        · apply prop_of ?_ hq
          kernel_rfl
        refine XS.then ?_
        rcases bif_some h with ⟨c9, h⟩ | ⟨c10, h⟩
        · refine TS.cond ((bitsI .and .i64 ((h_Ports.getD port.toNat ((0 : Int), (0 : Int))).1) (256 : Int)) == (0 : Int)) ?_ (fun e => ?_) (fun e => by rw [c9] at e; cases e)
          · kernel_rfl
          refine TS.seq ?_
          have hq : (True) ∧ ((True) ∧ ((True) ∧ (True))) := ⟨trivial, ⟨trivial, ⟨trivial, trivial⟩⟩⟩
          refine TS.reg [] ?_ ?_
          · apply prop_of ?_ hq
            kernel_rfl
          refine XS.then ?_
          refine TS.ret ?_
          refine XS.blockRet ?_
          refine XS.passR ?_
          obtain rfl : (h_Count, h_Ports, (8 : Int)) = r := Option.some.inj h
          exact XS.fin [] ((True) ∧ ((True) ∧ (True))) (by kernel_rfl) ⟨trivial, ⟨trivial, trivial⟩⟩
        · refine TS.cond ((bitsI .and .i64 ((h_Ports.getD port.toNat ((0 : Int), (0 : Int))).1) (256 : Int)) == (0 : Int)) ?_ (fun e => by rw [c10] at e; cases e) (fun e => ?_)
          · kernel_rfl
          refine TS.seq ?_
          rcases bif_some h with ⟨c11, h⟩ | ⟨c12, h⟩
          · have hq : (True) ∧ (((True) ∧ there = true) ∧ ((True) ∧ ((True) ∧ ((True) ∧ ((True) ∧ (True)))))) := ⟨trivial, ⟨⟨trivial, c11⟩, ⟨trivial, ⟨trivial, ⟨trivial, ⟨trivial, trivial⟩⟩⟩⟩⟩⟩
            refine TS.reg [.none, .dec true] ?_ ?_
            · apply prop_of ?_ hq
              kernel_rfl
            refine XS.then ?_
            rcases bif_some h with ⟨c13, h⟩ | ⟨c14, h⟩
            · refine TS.cond (!((bitsI .and .i64 ((h_Ports.getD port.toNat ((0 : Int), (0 : Int))).1) (1 : Int)) != (0 : Int))) ?_ (fun e => ?_) (fun e => by rw [c13] at e; cases e)
              · kernel_rfl
              refine TS.seq ?_
              have hq : (True) ∧ ((True) ∧ ((True) ∧ ((port.toNat < 16 ∧ (True)) ∧ ((True) ∧ ((True) ∧ ((True) ∧ ((port.toNat < 16 ∧ (True)) ∧ (True)))))))) := ⟨trivial, ⟨trivial, ⟨trivial, ⟨⟨inR_lt (inb_ok t8), trivial⟩, ⟨trivial, ⟨trivial, ⟨trivial, ⟨⟨inR_lt (inb_ok t8), trivial⟩, trivial⟩⟩⟩⟩⟩⟩⟩⟩
              refine TS.reg [] ?_ ?_
              · apply prop_of ?_ hq
                kernel_rfl
              refine XS.then ?_
              have hq : (True) ∧ ((True) ∧ ((True) ∧ ((port.toNat < 16 ∧ (True)) ∧ ((True) ∧ ((True) ∧ ((True) ∧ ((port.toNat < 16 ∧ (True)) ∧ (True)))))))) := ⟨trivial, ⟨trivial, ⟨trivial, ⟨⟨inR_lt (inb_ok t8), trivial⟩, ⟨trivial, ⟨trivial, ⟨trivial, ⟨⟨inR_lt (inb_ok t8), trivial⟩, trivial⟩⟩⟩⟩⟩⟩⟩⟩
              refine TS.reg [] ?_ ?_
              · apply prop_of ?_ hq
                kernel_rfl
              refine XS.blockEnd ?_
              refine XS.then ?_
              refine TS.seq ?_
              have hq : (True) ∧ ((True) ∧ ((True) ∧ (True))) := ⟨trivial, ⟨trivial, ⟨trivial, trivial⟩⟩⟩
              refine TS.reg [] ?_ ?_
              · apply prop_of ?_ hq
                kernel_rfl
              refine XS.then ?_
              refine TS.ret ?_
              obtain rfl : (h_Count, ((h_Ports.set port.toNat ((bitsI .or .i64 ((h_Ports.getD port.toNat ((0 : Int), (0 : Int))).1) (1 : Int)), (h_Ports.getD port.toNat ((0 : Int), (0 : Int))).2)).set port.toNat (((h_Ports.set port.toNat ((bitsI .or .i64 ((h_Ports.getD port.toNat ((0 : Int), (0 : Int))).1) (1 : Int)), (h_Ports.getD port.toNat ((0 : Int), (0 : Int))).2)).getD port.toNat ((0 : Int), (0 : Int))).1, (bitsI .or .i64 (((h_Ports.set port.toNat ((bitsI .or .i64 ((h_Ports.getD port.toNat ((0 : Int), (0 : Int))).1) (1 : Int)), (h_Ports.getD port.toNat ((0 : Int), (0 : Int))).2)).getD port.toNat ((0 : Int), (0 : Int))).2) (1 : Int)))), (0 : Int)) = r := Option.some.inj h
              exact XS.fin [] ((True) ∧ ((True) ∧ (True))) (by kernel_rfl) ⟨trivial, ⟨trivial, trivial⟩⟩
            · refine TS.cond (!((bitsI .and .i64 ((h_Ports.getD port.toNat ((0 : Int), (0 : Int))).1) (1 : Int)) != (0 : Int))) ?_ (fun e => by rw [c14] at e; cases e) (fun e => ?_)
              · kernel_rfl
              refine TS.seq ?_
              rcases bif_some h with ⟨c15, h⟩ | ⟨c16, h⟩
              · have hq : (True) ∧ ((True) ∧ (((True) ∧ (!there) = true) ∧ ((True) ∧ ((True) ∧ ((True) ∧ (True)))))) := ⟨trivial, ⟨trivial, ⟨⟨trivial, c15⟩, ⟨trivial, ⟨trivial, ⟨trivial, trivial⟩⟩⟩⟩⟩⟩
                refine TS.reg [.none, .none, .dec true] ?_ ?_
                · apply prop_of ?_ hq
                  kernel_rfl
                refine XS.then ?_
                rcases bif_some h with ⟨c17, h⟩ | ⟨c18, h⟩
                · refine TS.cond ((bitsI .and .i64 ((h_Ports.getD port.toNat ((0 : Int), (0 : Int))).1) (1 : Int)) != (0 : Int)) ?_ (fun e => ?_) (fun e => by rw [c17] at e; cases e)
                  · kernel_rfl
                  refine TS.seq ?_
                  have hq : ((True) ∧ ((True) ∧ ((True) ∧ ((port.toNat < 16 ∧ (True)) ∧ ((True) ∧ ((True) ∧ ((True) ∧ ((port.toNat < 16 ∧ (True)) ∧ ((True) ∧ ((True) ∧ ((True) ∧ ((True) ∧ ((True) ∧ (True)))))))))))))) ∧ ((port.toNat < 16 ∧ (True)) ∧ (True)) := ⟨⟨trivial, ⟨trivial, ⟨trivial, ⟨⟨inR_lt (inb_ok t8), trivial⟩, ⟨trivial, ⟨trivial, ⟨trivial, ⟨⟨inR_lt (inb_ok t8), trivial⟩, ⟨trivial, ⟨trivial, ⟨trivial, ⟨trivial, ⟨trivial, trivial⟩⟩⟩⟩⟩⟩⟩⟩⟩⟩⟩⟩⟩, ⟨⟨inR_lt (inb_ok t8), trivial⟩, trivial⟩⟩
                  refine TS.draw 13 [] [] (by kernel_rfl) ?_ ?_
                  · apply prop_of ?_ hq
                    kernel_rfl
                  refine XS.then ?_
                  have hq : (True) ∧ ((True) ∧ ((True) ∧ ((port.toNat < 16 ∧ (True)) ∧ (True)))) := ⟨trivial, ⟨trivial, ⟨trivial, ⟨⟨inR_lt (inb_ok t8), trivial⟩, trivial⟩⟩⟩⟩
                  refine TS.reg [] ?_ ?_
                  · apply prop_of ?_ hq
                    kernel_rfl
                  refine XS.blockEnd ?_
                  refine XS.then ?_
                  refine TS.seq ?_
                  have hq : (True) ∧ ((True) ∧ ((True) ∧ (True))) := ⟨trivial, ⟨trivial, ⟨trivial, trivial⟩⟩⟩
                  refine TS.reg [] ?_ ?_
                  · apply prop_of ?_ hq
                    kernel_rfl
                  refine XS.then ?_
                  refine TS.ret ?_
                  obtain rfl : (h_Count, ((h_Ports.set port.toNat ((h_Ports.getD port.toNat ((0 : Int), (0 : Int))).1, (bitsI .or .i64 ((h_Ports.getD port.toNat ((0 : Int), (0 : Int))).2) (bitsI .or .i64 (1 : Int) (bitsI .and .i64 ((h_Ports.getD port.toNat ((0 : Int), (0 : Int))).1) (2 : Int)))))).set port.toNat ((256 : Int), ((h_Ports.set port.toNat ((h_Ports.getD port.toNat ((0 : Int), (0 : Int))).1, (bitsI .or .i64 ((h_Ports.getD port.toNat ((0 : Int), (0 : Int))).2) (bitsI .or .i64 (1 : Int) (bitsI .and .i64 ((h_Ports.getD port.toNat ((0 : Int), (0 : Int))).1) (2 : Int)))))).getD port.toNat ((0 : Int), (0 : Int))).2)), (0 : Int)) = r := Option.some.inj h
                  exact XS.fin [] ((True) ∧ ((True) ∧ (True))) (by kernel_rfl) ⟨trivial, ⟨trivial, trivial⟩⟩
                · refine TS.cond ((bitsI .and .i64 ((h_Ports.getD port.toNat ((0 : Int), (0 : Int))).1) (1 : Int)) != (0 : Int)) ?_ (fun e => by rw [c18] at e; cases e) (fun e => ?_)
                  · kernel_rfl
                  refine TS.skip ?_
                  refine XS.blockEnd ?_
                  refine XS.then ?_
                  refine TS.seq ?_
                  have hq : (True) ∧ ((True) ∧ ((True) ∧ (True))) := ⟨trivial, ⟨trivial, ⟨trivial, trivial⟩⟩⟩
                  refine TS.reg [] ?_ ?_
                  · apply prop_of ?_ hq
                    kernel_rfl
                  refine XS.then ?_
                  refine TS.ret ?_
                  obtain rfl : (h_Count, h_Ports, (0 : Int)) = r := Option.some.inj h
                  exact XS.fin [] ((True) ∧ ((True) ∧ (True))) (by kernel_rfl) ⟨trivial, ⟨trivial, trivial⟩⟩
              · have hq : (True) ∧ ((True) ∧ (((True) ∧ (!there) = false) ∧ ((True) ∧ ((True) ∧ (True))))) := ⟨trivial, ⟨trivial, ⟨⟨trivial, c16⟩, ⟨trivial, ⟨trivial, trivial⟩⟩⟩⟩⟩
                refine TS.reg [.none, .none, .dec false] ?_ ?_
                · apply prop_of ?_ hq
                  kernel_rfl
                refine XS.then ?_
                refine TS.no ?_ ?_
                · kernel_rfl
                refine TS.skip ?_
                refine XS.blockEnd ?_
                refine XS.then ?_
                refine TS.seq ?_
                have hq : (True) ∧ ((True) ∧ ((True) ∧ (True))) := ⟨trivial, ⟨trivial, ⟨trivial, trivial⟩⟩⟩
                refine TS.reg [] ?_ ?_
                · apply prop_of ?_ hq
                  kernel_rfl
                refine XS.then ?_
                refine TS.ret ?_
                obtain rfl : (h_Count, h_Ports, (0 : Int)) = r := Option.some.inj h
                exact XS.fin [] ((True) ∧ ((True) ∧ (True))) (by kernel_rfl) ⟨trivial, ⟨trivial, trivial⟩⟩
          · have hq : (True) ∧ (((True) ∧ there = false) ∧ ((True) ∧ ((True) ∧ (True)))) := ⟨trivial, ⟨⟨trivial, c12⟩, ⟨trivial, ⟨trivial, trivial⟩⟩⟩⟩
            refine TS.reg [.none, .dec false] ?_ ?_
            · apply prop_of ?_ hq
              kernel_rfl
            refine XS.then ?_
            refine TS.no ?_ ?_
            · kernel_rfl
            refine TS.seq ?_
            rcases bif_some h with ⟨c19, h⟩ | ⟨c20, h⟩
            · have hq : (True) ∧ ((True) ∧ (((True) ∧ (!there) = true) ∧ ((True) ∧ ((True) ∧ ((True) ∧ (True)))))) := ⟨trivial, ⟨trivial, ⟨⟨trivial, c19⟩, ⟨trivial, ⟨trivial, ⟨trivial, trivial⟩⟩⟩⟩⟩⟩
              refine TS.reg [.none, .none, .dec true] ?_ ?_
              · apply prop_of ?_ hq
                kernel_rfl
              refine XS.then ?_
              rcases bif_some h with ⟨c21, h⟩ | ⟨c22, h⟩
              · refine TS.cond ((bitsI .and .i64 ((h_Ports.getD port.toNat ((0 : Int), (0 : Int))).1) (1 : Int)) != (0 : Int)) ?_ (fun e => ?_) (fun e => by rw [c21] at e; cases e)
                · kernel_rfl
                refine TS.seq ?_
                have hq : ((True) ∧ ((True) ∧ ((True) ∧ ((port.toNat < 16 ∧ (True)) ∧ ((True) ∧ ((True) ∧ ((True) ∧ ((port.toNat < 16 ∧ (True)) ∧ ((True) ∧ ((True) ∧ ((True) ∧ ((True) ∧ ((True) ∧ (True)))))))))))))) ∧ ((port.toNat < 16 ∧ (True)) ∧ (True)) := ⟨⟨trivial, ⟨trivial, ⟨trivial, ⟨⟨inR_lt (inb_ok t8), trivial⟩, ⟨trivial, ⟨trivial, ⟨trivial, ⟨⟨inR_lt (inb_ok t8), trivial⟩, ⟨trivial, ⟨trivial, ⟨trivial, ⟨trivial, ⟨trivial, trivial⟩⟩⟩⟩⟩⟩⟩⟩⟩⟩⟩⟩⟩, ⟨⟨inR_lt (inb_ok t8), trivial⟩, trivial⟩⟩
                refine TS.draw 13 [] [] (by kernel_rfl) ?_ ?_
                · apply prop_of ?_ hq
                  kernel_rfl
                refine XS.then ?_
                have hq : (True) ∧ ((True) ∧ ((True) ∧ ((port.toNat < 16 ∧ (True)) ∧ (True)))) := ⟨trivial, ⟨trivial, ⟨trivial, ⟨⟨inR_lt (inb_ok t8), trivial⟩, trivial⟩⟩⟩⟩
                refine TS.reg [] ?_ ?_
                · apply prop_of ?_ hq
                  kernel_rfl
                refine XS.blockEnd ?_
                refine XS.then ?_
                refine TS.seq ?_
                have hq : (True) ∧ ((True) ∧ ((True) ∧ (True))) := ⟨trivial, ⟨trivial, ⟨trivial, trivial⟩⟩⟩
                refine TS.reg [] ?_ ?_
                · apply prop_of ?_ hq
                  kernel_rfl
                refine XS.then ?_
                refine TS.ret ?_
                obtain rfl : (h_Count, ((h_Ports.set port.toNat ((h_Ports.getD port.toNat ((0 : Int), (0 : Int))).1, (bitsI .or .i64 ((h_Ports.getD port.toNat ((0 : Int), (0 : Int))).2) (bitsI .or .i64 (1 : Int) (bitsI .and .i64 ((h_Ports.getD port.toNat ((0 : Int), (0 : Int))).1) (2 : Int)))))).set port.toNat ((256 : Int), ((h_Ports.set port.toNat ((h_Ports.getD port.toNat ((0 : Int), (0 : Int))).1, (bitsI .or .i64 ((h_Ports.getD port.toNat ((0 : Int), (0 : Int))).2) (bitsI .or .i64 (1 : Int) (bitsI .and .i64 ((h_Ports.getD port.toNat ((0 : Int), (0 : Int))).1) (2 : Int)))))).getD port.toNat ((0 : Int), (0 : Int))).2)), (0 : Int)) = r := Option.some.inj h
                exact XS.fin [] ((True) ∧ ((True) ∧ (True))) (by kernel_rfl) ⟨trivial, ⟨trivial, trivial⟩⟩
              · refine TS.cond ((bitsI .and .i64 ((h_Ports.getD port.toNat ((0 : Int), (0 : Int))).1) (1 : Int)) != (0 : Int)) ?_ (fun e => by rw [c22] at e; cases e) (fun e => ?_)
                · kernel_rfl
                refine TS.skip ?_
                refine XS.blockEnd ?_
                refine XS.then ?_
                refine TS.seq ?_
                have hq : (True) ∧ ((True) ∧ ((True) ∧ (True))) := ⟨trivial, ⟨trivial, ⟨trivial, trivial⟩⟩⟩
                refine TS.reg [] ?_ ?_
                · apply prop_of ?_ hq
                  kernel_rfl
                refine XS.then ?_
                refine TS.ret ?_
                obtain rfl : (h_Count, h_Ports, (0 : Int)) = r := Option.some.inj h
                exact XS.fin [] ((True) ∧ ((True) ∧ (True))) (by kernel_rfl) ⟨trivial, ⟨trivial, trivial⟩⟩
            · have hq : (True) ∧ ((True) ∧ (((True) ∧ (!there) = false) ∧ ((True) ∧ ((True) ∧ (True))))) := ⟨trivial, ⟨trivial, ⟨⟨trivial, c20⟩, ⟨trivial, ⟨trivial, trivial⟩⟩⟩⟩⟩
              refine TS.reg [.none, .none, .dec false] ?_ ?_
              · apply prop_of ?_ hq
                kernel_rfl
              refine XS.then ?_
              refine TS.no ?_ ?_
              · kernel_rfl
              refine TS.skip ?_
              refine XS.blockEnd ?_
              refine XS.then ?_
              refine TS.seq ?_
              have hq : (True) ∧ ((True) ∧ ((True) ∧ (True))) := ⟨trivial, ⟨trivial, ⟨trivial, trivial⟩⟩⟩
              refine TS.reg [] ?_ ?_
              · apply prop_of ?_ hq
                kernel_rfl
              refine XS.then ?_
              refine TS.ret ?_
              obtain rfl : (h_Count, h_Ports, (0 : Int)) = r := Option.some.inj h
              exact XS.fin [] ((True) ∧ ((True) ∧ (True))) (by kernel_rfl) ⟨trivial, ⟨trivial, trivial⟩⟩

/-! plugtree/plugref.Between -/
def F66 (n : Nat) (vn : Int) (low : Int) (high : Int) : Option Bool := (bif (decide (low ≤ vn)) then (some (decide (vn ≤ high))) else (some false))
theorem F66_ok (n : Nat) (vn : Int) (low : Int) (high : Int) (r : Bool) (h : F66 n vn low high = some r) : PureC Try.prog 66 [(.int .i64 vn), (.int .i64 low), (.int .i64 high)] (.bool r) [] := by
  refine PureC.mkS Try.func66 rfl rfl ?_
  intro w0 fz0 hfz
  replace h : (bif (decide (low ≤ vn)) then (some (decide (vn ≤ high))) else (some false)) = some r := h
  refine TS.seq ?_
  have hq : (True) ∧ (True) := ⟨trivial, trivial⟩
  refine TS.reg [] ?_ ?_
  · apply prop_of ?_ hq
    kernel_rfl
  refine XS.then ?_
  refine TS.seq ?_
  rcases bif_some h with ⟨c1, h⟩ | ⟨c2, h⟩
  · have hq : (True) ∧ ((True) ∧ ((True) ∧ (((True) ∧ (decide (low ≤ vn)) = true) ∧ ((True) ∧ ((True) ∧ ((True) ∧ ((True) ∧ ((True) ∧ (True))))))))) := ⟨trivial, ⟨trivial, ⟨trivial, ⟨⟨trivial, c1⟩, ⟨trivial, ⟨trivial, ⟨trivial, ⟨trivial, ⟨trivial, trivial⟩⟩⟩⟩⟩⟩⟩⟩⟩
    refine TS.reg [.none, .none, .none, .dec true] ?_ ?_
    · apply prop_of ?_ hq
      kernel_rfl
    refine XS.then ?_
    refine TS.ret ?_
    obtain rfl : (decide (vn ≤ high)) = r := Option.some.inj h
    exact XS.fin [] ((True) ∧ (True)) (by kernel_rfl) ⟨trivial, trivial⟩
  · have hq : (True) ∧ ((True) ∧ ((True) ∧ (((True) ∧ (decide (low ≤ vn)) = false) ∧ ((True) ∧ ((True) ∧ (True)))))) := ⟨trivial, ⟨trivial, ⟨trivial, ⟨⟨trivial, c2⟩, ⟨trivial, ⟨trivial, trivial⟩⟩⟩⟩⟩⟩
    refine TS.reg [.none, .none, .none, .dec false] ?_ ?_
    · apply prop_of ?_ hq
      kernel_rfl
    refine XS.then ?_
    refine TS.ret ?_
    obtain rfl : false = r := Option.some.inj h
    exact XS.fin [] ((True) ∧ (True)) (by kernel_rfl) ⟨trivial, trivial⟩

/-! plugtree/plugref.status -/
def F83 (n : Nat) (vn : Int) : Option Bool := (bif (vn == (0 : Int)) then (some true) else (bif (vn == (256 : Int)) then (some true) else (bif (vn == (257 : Int)) then (some true) else (bif (vn == (259 : Int)) then (some true) else (some (vn == (273 : Int)))))))
theorem F83_ok (n : Nat) (vn : Int) (r : Bool) (h : F83 n vn = some r) : PureC Try.prog 83 [(.int .i64 vn)] (.bool r) [] := by
  refine PureC.mkS Try.func83 rfl rfl ?_
  intro w0 fz0 hfz
  replace h : (bif (vn == (0 : Int)) then (some true) else (bif (vn == (256 : Int)) then (some true) else (bif (vn == (257 : Int)) then (some true) else (bif (vn == (259 : Int)) then (some true) else (some (vn == (273 : Int))))))) = some r := h
  refine TS.seq ?_
  have hq : (True) ∧ (True) := ⟨trivial, trivial⟩
  refine TS.reg [] ?_ ?_
  · apply prop_of ?_ hq
    kernel_rfl
  refine XS.then ?_
  refine TS.seq ?_
  rcases bif_some h with ⟨c1, h⟩ | ⟨c2, h⟩
  · have hq : (True) ∧ ((True) ∧ (((True) ∧ (vn == (0 : Int)) = true) ∧ ((True) ∧ ((True) ∧ ((True) ∧ ((True) ∧ ((True) ∧ ((True) ∧ ((True) ∧ ((True) ∧ (True))))))))))) := ⟨trivial, ⟨trivial, ⟨⟨trivial, c1⟩, ⟨trivial, ⟨trivial, ⟨trivial, ⟨trivial, ⟨trivial, ⟨trivial, ⟨trivial, ⟨trivial, trivial⟩⟩⟩⟩⟩⟩⟩⟩⟩⟩⟩
    refine TS.reg [.none, .none, .dec true] ?_ ?_
    · apply prop_of ?_ hq
      kernel_rfl
    refine XS.then ?_
    refine TS.ret ?_
    obtain rfl : true = r := Option.some.inj h
    exact XS.fin [] ((True) ∧ (True)) (by kernel_rfl) ⟨trivial, trivial⟩
  · rcases bif_some h with ⟨c3, h⟩ | ⟨c4, h⟩
    · have hq : (True) ∧ ((True) ∧ (((True) ∧ (vn == (0 : Int)) = false) ∧ ((True) ∧ ((True) ∧ ((True) ∧ (((True) ∧ (vn == (256 : Int)) = true) ∧ ((True) ∧ ((True) ∧ ((True) ∧ ((True) ∧ ((True) ∧ ((True) ∧ (True))))))))))))) := ⟨trivial, ⟨trivial, ⟨⟨trivial, c2⟩, ⟨trivial, ⟨trivial, ⟨trivial, ⟨⟨trivial, c3⟩, ⟨trivial, ⟨trivial, ⟨trivial, ⟨trivial, ⟨trivial, ⟨trivial, trivial⟩⟩⟩⟩⟩⟩⟩⟩⟩⟩⟩⟩⟩
      refine TS.reg [.none, .none, .dec false, .none, .none, .none, .dec true] ?_ ?_
      · apply prop_of ?_ hq
        kernel_rfl
      refine XS.then ?_
      refine TS.ret ?_
      obtain rfl : true = r := Option.some.inj h
      exact XS.fin [] ((True) ∧ (True)) (by kernel_rfl) ⟨trivial, trivial⟩
    · rcases bif_some h with ⟨c5, h⟩ | ⟨c6, h⟩
      · have hq : (True) ∧ ((True) ∧ (((True) ∧ (vn == (0 : Int)) = false) ∧ ((True) ∧ ((True) ∧ ((True) ∧ (((True) ∧ (vn == (256 : Int)) = false) ∧ ((True) ∧ ((True) ∧ ((True) ∧ (((True) ∧ (vn == (257 : Int)) = true) ∧ ((True) ∧ ((True) ∧ ((True) ∧ ((True) ∧ (True))))))))))))))) := ⟨trivial, ⟨trivial, ⟨⟨trivial, c2⟩, ⟨trivial, ⟨trivial, ⟨trivial, ⟨⟨trivial, c4⟩, ⟨trivial, ⟨trivial, ⟨trivial, ⟨⟨trivial, c5⟩, ⟨trivial, ⟨trivial, ⟨trivial, ⟨trivial, trivial⟩⟩⟩⟩⟩⟩⟩⟩⟩⟩⟩⟩⟩⟩⟩
        refine TS.reg [.none, .none, .dec false, .none, .none, .none, .dec false, .none, .none, .none, .dec true] ?_ ?_
        · apply prop_of ?_ hq
          kernel_rfl
        refine XS.then ?_
        refine TS.ret ?_
        obtain rfl : true = r := Option.some.inj h
        exact XS.fin [] ((True) ∧ (True)) (by kernel_rfl) ⟨trivial, trivial⟩
      · rcases bif_some h with ⟨c7, h⟩ | ⟨c8, h⟩
        · have hq : (True) ∧ ((True) ∧ (((True) ∧ (vn == (0 : Int)) = false) ∧ ((True) ∧ ((True) ∧ ((True) ∧ (((True) ∧ (vn == (256 : Int)) = false) ∧ ((True) ∧ ((True) ∧ ((True) ∧ (((True) ∧ (vn == (257 : Int)) = false) ∧ ((True) ∧ ((True) ∧ ((True) ∧ (((True) ∧ (vn == (259 : Int)) = true) ∧ ((True) ∧ ((True) ∧ (True))))))))))))))))) := ⟨trivial, ⟨trivial, ⟨⟨trivial, c2⟩, ⟨trivial, ⟨trivial, ⟨trivial, ⟨⟨trivial, c4⟩, ⟨trivial, ⟨trivial, ⟨trivial, ⟨⟨trivial, c6⟩, ⟨trivial, ⟨trivial, ⟨trivial, ⟨⟨trivial, c7⟩, ⟨trivial, ⟨trivial, trivial⟩⟩⟩⟩⟩⟩⟩⟩⟩⟩⟩⟩⟩⟩⟩⟩⟩
          refine TS.reg [.none, .none, .dec false, .none, .none, .none, .dec false, .none, .none, .none, .dec false, .none, .none, .none, .dec true] ?_ ?_
          · apply prop_of ?_ hq
            kernel_rfl
          refine XS.then ?_
          refine TS.ret ?_
          obtain rfl : true = r := Option.some.inj h
          exact XS.fin [] ((True) ∧ (True)) (by kernel_rfl) ⟨trivial, trivial⟩
        · have hq : (True) ∧ ((True) ∧ (((True) ∧ (vn == (0 : Int)) = false) ∧ ((True) ∧ ((True) ∧ ((True) ∧ (((True) ∧ (vn == (256 : Int)) = false) ∧ ((True) ∧ ((True) ∧ ((True) ∧ (((True) ∧ (vn == (257 : Int)) = false) ∧ ((True) ∧ ((True) ∧ ((True) ∧ (((True) ∧ (vn == (259 : Int)) = false) ∧ ((True) ∧ ((True) ∧ ((True) ∧ ((True) ∧ (True))))))))))))))))))) := ⟨trivial, ⟨trivial, ⟨⟨trivial, c2⟩, ⟨trivial, ⟨trivial, ⟨trivial, ⟨⟨trivial, c4⟩, ⟨trivial, ⟨trivial, ⟨trivial, ⟨⟨trivial, c6⟩, ⟨trivial, ⟨trivial, ⟨trivial, ⟨⟨trivial, c8⟩, ⟨trivial, ⟨trivial, ⟨trivial, ⟨trivial, trivial⟩⟩⟩⟩⟩⟩⟩⟩⟩⟩⟩⟩⟩⟩⟩⟩⟩⟩⟩
          refine TS.reg [.none, .none, .dec false, .none, .none, .none, .dec false, .none, .none, .none, .dec false, .none, .none, .none, .dec false] ?_ ?_
          · apply prop_of ?_ hq
            kernel_rfl
          refine XS.then ?_
          refine TS.ret ?_
          obtain rfl : (vn == (273 : Int)) = r := Option.some.inj h
          exact XS.fin [] ((True) ∧ (True)) (by kernel_rfl) ⟨trivial, trivial⟩

/-! plugtree/plugref.changed -/
def F84 (n : Nat) (vn : Int) : Option Bool := ((F66 n vn (0 : Int) (3 : Int)).bind fun y_2 => (bif y_2 then (some true) else ((F66 n vn (16 : Int) (19 : Int)).bind fun y_3 => (some y_3))))
theorem F84_ok (n : Nat) (vn : Int) (r : Bool) (h : F84 n vn = some r) : PureC Try.prog 84 [(.int .i64 vn)] (.bool r) [] := by
  refine PureC.mkS Try.func84 rfl rfl ?_
  intro w0 fz0 hfz
  replace h : ((F66 n vn (0 : Int) (3 : Int)).bind fun y_2 => (bif y_2 then (some true) else ((F66 n vn (16 : Int) (19 : Int)).bind fun y_3 => (some y_3)))) = some r := h
  refine TS.seq ?_
  have hq : (True) ∧ (True) := ⟨trivial, trivial⟩
  refine TS.reg [] ?_ ?_
  · apply prop_of ?_ hq
    kernel_rfl
  refine XS.then ?_
  refine TS.seq ?_
  obtain ⟨y_2, hx1, h⟩ := bind_some' h
  rcases bif_some h with ⟨c2, h⟩ | ⟨c3, h⟩
  · have hq : (True) ∧ ((PureC Try.prog 66 [(.int .i64 vn), (.int .i64 (0 : Int)), (.int .i64 (3 : Int))] (.bool y_2) []) ∧ (((True) ∧ y_2 = true) ∧ ((True) ∧ ((True) ∧ (True))))) := ⟨trivial, ⟨F66_ok n vn (0 : Int) (3 : Int) y_2 hx1, ⟨⟨trivial, c2⟩, ⟨trivial, ⟨trivial, trivial⟩⟩⟩⟩⟩
    refine TS.reg [.none, (.call (.bool y_2) []), .dec true] ?_ ?_
    · apply prop_of ?_ hq
      kernel_rfl
    refine XS.then ?_
    refine TS.ret ?_
    obtain rfl : true = r := Option.some.inj h
    exact XS.fin [] ((True) ∧ (True)) (by kernel_rfl) ⟨trivial, trivial⟩
  · obtain ⟨y_3, hx4, h⟩ := bind_some' h
    have hq : (True) ∧ ((PureC Try.prog 66 [(.int .i64 vn), (.int .i64 (0 : Int)), (.int .i64 (3 : Int))] (.bool y_2) []) ∧ (((True) ∧ y_2 = false) ∧ ((True) ∧ ((PureC Try.prog 66 [(.int .i64 vn), (.int .i64 (16 : Int)), (.int .i64 (19 : Int))] (.bool y_3) []) ∧ ((True) ∧ ((True) ∧ (True))))))) := ⟨trivial, ⟨F66_ok n vn (0 : Int) (3 : Int) y_2 hx1, ⟨⟨trivial, c3⟩, ⟨trivial, ⟨F66_ok n vn (16 : Int) (19 : Int) y_3 hx4, ⟨trivial, ⟨trivial, trivial⟩⟩⟩⟩⟩⟩⟩
    refine TS.reg [.none, (.call (.bool y_2) []), .dec false, .none, (.call (.bool y_3) [])] ?_ ?_
    · apply prop_of ?_ hq
      kernel_rfl
    refine XS.then ?_
    refine TS.ret ?_
    obtain rfl : y_3 = r := Option.some.inj h
    exact XS.fin [] ((True) ∧ (True)) (by kernel_rfl) ⟨trivial, trivial⟩

/-! plugtree/plugref.Hub -/
def F46_l2 (n : Nat) (h_Count : Int) (h_Ports : List (Int × Int)) (k46_2 : Int → Option Int) : Int → Option Int
  | x => (bif (decide (x < (16 : Int))) then (bif inb x 16 then ((F83 n ((h_Ports.getD x.toNat ((0 : Int), (0 : Int))).1)).bind fun y_3 => (bif (!y_3) then (some (4 : Int)) else ((F84 n ((h_Ports.getD x.toNat ((0 : Int), (0 : Int))).2)).bind fun y_4 => (bif (!y_4) then (some (4 : Int)) else ((F66 n x (1 : Int) h_Count).bind fun y_5 => (bif (!y_5) then (bif ((IntKind.wrap .i64 ((h_Ports.getD x.toNat ((0 : Int), (0 : Int))).1 + (h_Ports.getD x.toNat ((0 : Int), (0 : Int))).2)) != (0 : Int)) then (some (4 : Int)) else (k46_2 (IntKind.wrap .i64 (x + (1 : Int))))) else (k46_2 (IntKind.wrap .i64 (x + (1 : Int)))))))))) else none) else (some (0 : Int)))
def F46 (n : Nat) (h_Count : Int) (h_Ports : List (Int × Int)) : Option Int := ((F66 n h_Count (1 : Int) (15 : Int)).bind fun y_2 => (bif (!y_2) then (some (1 : Int)) else (loopF (F46_l2 n h_Count h_Ports) n (0 : Int))))
theorem F46_ok (n : Nat) (h_Count : Int) (h_Ports : List (Int × Int)) (r : Int) (h : F46 n h_Count h_Ports = some r) : PureC Try.prog 46 [(.st (.cons (.int .i64 h_Count) (.arr 16 (.st (.pair (.int .i64) (.int .i64))) h_Ports)))] (.int .i64 r) [] := by
  refine PureC.mkS Try.func46 rfl rfl ?_
  intro w0 fz0 hfz
  replace h : ((F66 n h_Count (1 : Int) (15 : Int)).bind fun y_2 => (bif (!y_2) then (some (1 : Int)) else (loopF (F46_l2 n h_Count h_Ports) n (0 : Int)))) = some r := h
  refine TS.seq ?_
  have hq : (True) ∧ ((True) ∧ (True)) := ⟨trivial, ⟨trivial, trivial⟩⟩
  refine TS.reg [] ?_ ?_
  · apply prop_of ?_ hq
    kernel_rfl
  refine XS.then ?_
  refine TS.seq ?_
  refine TS.seq ?_
  obtain ⟨y_2, hx1, h⟩ := bind_some' h
  have hq : (True) ∧ ((True) ∧ ((PureC Try.prog 66 [(.int .i64 h_Count), (.int .i64 (1 : Int)), (.int .i64 (15 : Int))] (.bool y_2) []) ∧ ((True) ∧ (True)))) := ⟨trivial, ⟨trivial, ⟨F66_ok n h_Count (1 : Int) (15 : Int) y_2 hx1, ⟨trivial, trivial⟩⟩⟩⟩
  refine TS.reg [.none, .none, (.call (.bool y_2) [])] ?_ ?_
  · apply prop_of ?_ hq
    kernel_rfl
  refine XS.then ?_
  rcases bif_some h with ⟨c2, h⟩ | ⟨c3, h⟩
  · refine TS.cond (!y_2) ?_ (fun e => ?_) (fun e => by rw [c2] at e; cases e)
    · kernel_rfl
    refine TS.seq ?_
    have hq : (True) ∧ (True) := ⟨trivial, trivial⟩
    refine TS.reg [] ?_ ?_
    · apply prop_of ?_ hq
      kernel_rfl
    refine XS.then ?_
    refine TS.ret ?_
    refine XS.passR ?_
    obtain rfl : (1 : Int) = r := Option.some.inj h
    exact XS.fin [] ((True) ∧ (True)) (by kernel_rfl) ⟨trivial, trivial⟩
  · refine TS.cond (!y_2) ?_ (fun e => by rw [c3] at e; cases e) (fun e => ?_)
    · kernel_rfl
    refine TS.skip ?_
    refine XS.then ?_
    refine TS.seq ?_
    refine TS.seq ?_
    have hq : (True) ∧ ((True) ∧ ((True) ∧ (True))) := ⟨trivial, ⟨trivial, ⟨trivial, trivial⟩⟩⟩
    refine TS.reg [] ?_ ?_
    · apply prop_of ?_ hq
      kernel_rfl
    refine XS.then ?_
    refine TS.block ?_
    refine TS.reLoop [0] (mkMask 41 [1, 10, 11]) (D := Int) (fun d => match d with | x => (mkTs 41 [(1, (.ptr 0 [])), (10, (.arr 16 (.st (.pair (.int .i64) (.int .i64))) h_Ports)), (11, (.int .i64 x))], [(.box 70 (.st (.cons (.int .i64 h_Count) (.arr 16 (.st (.pair (.int .i64) (.int .i64))) h_Ports))))])) (fun n' d => loopF (F46_l2 n h_Count h_Ports) n' d = some r) n (0 : Int) h ?_ (fun d => loopF_zero _ d r) ?_
    · kernel_rfl
    · rintro n2 x h
      replace h : (bif (decide (x < (16 : Int))) then (bif inb x 16 then ((F83 n ((h_Ports.getD x.toNat ((0 : Int), (0 : Int))).1)).bind fun y_3 => (bif (!y_3) then (some (4 : Int)) else ((F84 n ((h_Ports.getD x.toNat ((0 : Int), (0 : Int))).2)).bind fun y_4 => (bif (!y_4) then (some (4 : Int)) else ((F66 n x (1 : Int) h_Count).bind fun y_5 => (bif (!y_5) then (bif ((IntKind.wrap .i64 ((h_Ports.getD x.toNat ((0 : Int), (0 : Int))).1 + (h_Ports.getD x.toNat ((0 : Int), (0 : Int))).2)) != (0 : Int)) then (some (4 : Int)) else ((loopF (F46_l2 n h_Count h_Ports) n2) (IntKind.wrap .i64 (x + (1 : Int))))) else ((loopF (F46_l2 n h_Count h_Ports) n2) (IntKind.wrap .i64 (x + (1 : Int)))))))))) else none) else (some (0 : Int))) = some r := h
      refine TS.seq ?_
      have hq : (True) ∧ (True) := ⟨trivial, trivial⟩
      refine TS.reg [] ?_ ?_
      · apply prop_of ?_ hq
        kernel_rfl
      refine XS.then ?_
      refine TS.seq ?_
      rcases bif_some h with ⟨c4, h⟩ | ⟨c5, h⟩
      · refine TS.cond (decide (x < (16 : Int))) ?_ (fun e => ?_) (fun e => by rw [c4] at e; cases e)
        · kernel_rfl
        refine TS.skip ?_
        refine XS.then ?_
        refine TS.seq ?_
        refine TS.block ?_
        refine TS.seq ?_
        obtain ⟨t6, h⟩ := test_some h
        have hq : (True) ∧ ((inR x 16) ∧ ((True) ∧ ((True) ∧ ((True) ∧ (True))))) := ⟨trivial, ⟨inb_ok t6, ⟨trivial, ⟨trivial, ⟨trivial, trivial⟩⟩⟩⟩⟩
        refine TS.reg [] ?_ ?_
        · apply prop_of ?_ hq
          kernel_rfl
        refine XS.then ?_
        refine TS.seq ?_
        obtain ⟨y_3, hx7, h⟩ := bind_some' h
        rcases bif_some h with ⟨c8, h⟩ | ⟨c9, h⟩
        · have hq : (True) ∧ ((True) ∧ ((PureC Try.prog 83 [(.int .i64 (h_Ports.getD x.toNat ((0 : Int), (0 : Int))).1)] (.bool y_3) []) ∧ ((True) ∧ (((True) ∧ (!y_3) = true) ∧ ((True) ∧ ((True) ∧ ((True) ∧ (True)))))))) := ⟨trivial, ⟨trivial, ⟨F83_ok n ((h_Ports.getD x.toNat ((0 : Int), (0 : Int))).1) y_3 hx7, ⟨trivial, ⟨⟨trivial, c8⟩, ⟨trivial, ⟨trivial, ⟨trivial, trivial⟩⟩⟩⟩⟩⟩⟩⟩
          refine TS.reg [.none, .none, (.call (.bool y_3) []), .none, .dec true] ?_ ?_
          · apply prop_of ?_ hq
            kernel_rfl
          refine XS.then ?_
          refine TS.yes ?_ ?_
          · kernel_rfl
          refine TS.seq ?_
          have hq : (True) ∧ (True) := ⟨trivial, trivial⟩
          refine TS.reg [] ?_ ?_
          · apply prop_of ?_ hq
            kernel_rfl
          refine XS.then ?_
          refine TS.ret ?_
          refine XS.blockRet ?_
          refine XS.passR ?_
          refine XS.passR ?_
          refine XS.blockRet ?_
          refine XS.passR ?_
          obtain rfl : (4 : Int) = r := Option.some.inj h
          exact XS.fin [] ((True) ∧ (True)) (by kernel_rfl) ⟨trivial, trivial⟩
        · obtain ⟨y_4, hx10, h⟩ := bind_some' h
          rcases bif_some h with ⟨c11, h⟩ | ⟨c12, h⟩
          · have hq : (True) ∧ ((True) ∧ ((PureC Try.prog 83 [(.int .i64 (h_Ports.getD x.toNat ((0 : Int), (0 : Int))).1)] (.bool y_3) []) ∧ ((True) ∧ (((True) ∧ (!y_3) = false) ∧ ((True) ∧ ((True) ∧ ((PureC Try.prog 84 [(.int .i64 (h_Ports.getD x.toNat ((0 : Int), (0 : Int))).2)] (.bool y_4) []) ∧ ((True) ∧ ((True) ∧ (((True) ∧ (!y_4) = true) ∧ ((True) ∧ (True)))))))))))) := ⟨trivial, ⟨trivial, ⟨F83_ok n ((h_Ports.getD x.toNat ((0 : Int), (0 : Int))).1) y_3 hx7, ⟨trivial, ⟨⟨trivial, c9⟩, ⟨trivial, ⟨trivial, ⟨F84_ok n ((h_Ports.getD x.toNat ((0 : Int), (0 : Int))).2) y_4 hx10, ⟨trivial, ⟨trivial, ⟨⟨trivial, c11⟩, ⟨trivial, trivial⟩⟩⟩⟩⟩⟩⟩⟩⟩⟩⟩⟩
            refine TS.reg [.none, .none, (.call (.bool y_3) []), .none, .dec false, .none, .none, (.call (.bool y_4) []), .none, .none, .dec true] ?_ ?_
            · apply prop_of ?_ hq
              kernel_rfl
            refine XS.then ?_
            refine TS.yes ?_ ?_
            · kernel_rfl
            refine TS.seq ?_
            have hq : (True) ∧ (True) := ⟨trivial, trivial⟩
            refine TS.reg [] ?_ ?_
            · apply prop_of ?_ hq
              kernel_rfl
            refine XS.then ?_
            refine TS.ret ?_
            refine XS.blockRet ?_
            refine XS.passR ?_
            refine XS.passR ?_
            refine XS.blockRet ?_
            refine XS.passR ?_
            obtain rfl : (4 : Int) = r := Option.some.inj h
            exact XS.fin [] ((True) ∧ (True)) (by kernel_rfl) ⟨trivial, trivial⟩
          · obtain ⟨y_5, hx13, h⟩ := bind_some' h
            rcases bif_some h with ⟨c14, h⟩ | ⟨c15, h⟩
            · have hq : (True) ∧ ((True) ∧ ((PureC Try.prog 83 [(.int .i64 (h_Ports.getD x.toNat ((0 : Int), (0 : Int))).1)] (.bool y_3) []) ∧ ((True) ∧ (((True) ∧ (!y_3) = false) ∧ ((True) ∧ ((True) ∧ ((PureC Try.prog 84 [(.int .i64 (h_Ports.getD x.toNat ((0 : Int), (0 : Int))).2)] (.bool y_4) []) ∧ ((True) ∧ ((True) ∧ (((True) ∧ (!y_4) = false) ∧ ((True) ∧ ((True) ∧ ((True) ∧ ((PureC Try.prog 66 [(.int .i64 x), (.int .i64 (1 : Int)), (.int .i64 h_Count)] (.bool y_5) []) ∧ ((True) ∧ (((True) ∧ (!y_5) = true) ∧ ((True) ∧ ((True) ∧ ((True) ∧ ((True) ∧ ((True) ∧ ((True) ∧ ((True) ∧ ((True) ∧ (True))))))))))))))))))))))))) := ⟨trivial, ⟨trivial, ⟨F83_ok n ((h_Ports.getD x.toNat ((0 : Int), (0 : Int))).1) y_3 hx7, ⟨trivial, ⟨⟨trivial, c9⟩, ⟨trivial, ⟨trivial, ⟨F84_ok n ((h_Ports.getD x.toNat ((0 : Int), (0 : Int))).2) y_4 hx10, ⟨trivial, ⟨trivial, ⟨⟨trivial, c12⟩, ⟨trivial, ⟨trivial, ⟨trivial, ⟨F66_ok n x (1 : Int) h_Count y_5 hx13, ⟨trivial, ⟨⟨trivial, c14⟩, ⟨trivial, ⟨trivial, ⟨trivial, ⟨trivial, ⟨trivial, ⟨trivial, ⟨trivial, ⟨trivial, trivial⟩⟩⟩⟩⟩⟩⟩⟩⟩⟩⟩⟩⟩⟩⟩⟩⟩⟩⟩⟩⟩⟩⟩⟩⟩
              refine TS.reg [.none, .none, (.call (.bool y_3) []), .none, .dec false, .none, .none, (.call (.bool y_4) []), .none, .none, .dec false, .none, .none, .none, (.call (.bool y_5) []), .none, .dec true] ?_ ?_
              · apply prop_of ?_ hq
                kernel_rfl
              refine XS.then ?_
              rcases bif_some h with ⟨c16, h⟩ | ⟨c17, h⟩
              · refine TS.cond ((IntKind.wrap .i64 ((h_Ports.getD x.toNat ((0 : Int), (0 : Int))).1 + (h_Ports.getD x.toNat ((0 : Int), (0 : Int))).2)) != (0 : Int)) ?_ (fun e => ?_) (fun e => by rw [c16] at e; cases e)
                · kernel_rfl
                refine TS.seq ?_
                have hq : (True) ∧ (True) := ⟨trivial, trivial⟩
                refine TS.reg [] ?_ ?_
                · apply prop_of ?_ hq
                  kernel_rfl
                refine XS.then ?_
                refine TS.ret ?_
                refine XS.blockRet ?_
                refine XS.passR ?_
                refine XS.passR ?_
                refine XS.blockRet ?_
                refine XS.passR ?_
                obtain rfl : (4 : Int) = r := Option.some.inj h
                exact XS.fin [] ((True) ∧ (True)) (by kernel_rfl) ⟨trivial, trivial⟩
              · refine TS.cond ((IntKind.wrap .i64 ((h_Ports.getD x.toNat ((0 : Int), (0 : Int))).1 + (h_Ports.getD x.toNat ((0 : Int), (0 : Int))).2)) != (0 : Int)) ?_ (fun e => by rw [c17] at e; cases e) (fun e => ?_)
                · kernel_rfl
                refine TS.skip ?_
                refine XS.blockEnd ?_
                refine XS.then ?_
                have hq : (True) ∧ ((True) ∧ (True)) := ⟨trivial, ⟨trivial, trivial⟩⟩
                refine TS.reg [] ?_ ?_
                · apply prop_of ?_ hq
                  kernel_rfl
                refine XS.reAny [0] (mkMask 41 [1, 10, 11]) (IntKind.wrap .i64 (x + (1 : Int))) h ?_
                kernel_rfl
            · have hq : (True) ∧ ((True) ∧ ((PureC Try.prog 83 [(.int .i64 (h_Ports.getD x.toNat ((0 : Int), (0 : Int))).1)] (.bool y_3) []) ∧ ((True) ∧ (((True) ∧ (!y_3) = false) ∧ ((True) ∧ ((True) ∧ ((PureC Try.prog 84 [(.int .i64 (h_Ports.getD x.toNat ((0 : Int), (0 : Int))).2)] (.bool y_4) []) ∧ ((True) ∧ ((True) ∧ (((True) ∧ (!y_4) = false) ∧ ((True) ∧ ((True) ∧ ((True) ∧ ((PureC Try.prog 66 [(.int .i64 x), (.int .i64 (1 : Int)), (.int .i64 h_Count)] (.bool y_5) []) ∧ ((True) ∧ (((True) ∧ (!y_5) = false) ∧ ((True) ∧ ((True) ∧ (True))))))))))))))))))) := ⟨trivial, ⟨trivial, ⟨F83_ok n ((h_Ports.getD x.toNat ((0 : Int), (0 : Int))).1) y_3 hx7, ⟨trivial, ⟨⟨trivial, c9⟩, ⟨trivial, ⟨trivial, ⟨F84_ok n ((h_Ports.getD x.toNat ((0 : Int), (0 : Int))).2) y_4 hx10, ⟨trivial, ⟨trivial, ⟨⟨trivial, c12⟩, ⟨trivial, ⟨trivial, ⟨trivial, ⟨F66_ok n x (1 : Int) h_Count y_5 hx13, ⟨trivial, ⟨⟨trivial, c15⟩, ⟨trivial, ⟨trivial, trivial⟩⟩⟩⟩⟩⟩⟩⟩⟩⟩⟩⟩⟩⟩⟩⟩⟩⟩⟩
              refine TS.reg [.none, .none, (.call (.bool y_3) []), .none, .dec false, .none, .none, (.call (.bool y_4) []), .none, .none, .dec false, .none, .none, .none, (.call (.bool y_5) []), .none, .dec false] ?_ ?_
              · apply prop_of ?_ hq
                kernel_rfl
              refine XS.then ?_
              refine TS.no ?_ ?_
              · kernel_rfl
              refine TS.skip ?_
              refine XS.blockEnd ?_
              refine XS.then ?_
              have hq : (True) ∧ ((True) ∧ (True)) := ⟨trivial, ⟨trivial, trivial⟩⟩
              refine TS.reg [] ?_ ?_
              · apply prop_of ?_ hq
                kernel_rfl
              refine XS.reAny [0] (mkMask 41 [1, 10, 11]) (IntKind.wrap .i64 (x + (1 : Int))) h ?_
              kernel_rfl
      · refine TS.cond (decide (x < (16 : Int))) ?_ (fun e => by rw [c5] at e; cases e) (fun e => ?_)
        · kernel_rfl
        refine TS.exit ?_
        refine XS.passE ?_
        refine XS.passE ?_
        refine XS.out ?_
        refine XS.then ?_
        refine TS.seq ?_
        have hq : (True) ∧ (True) := ⟨trivial, trivial⟩
        refine TS.reg [] ?_ ?_
        · apply prop_of ?_ hq
          kernel_rfl
        refine XS.then ?_
        refine TS.ret ?_
        obtain rfl : (0 : Int) = r := Option.some.inj h
        exact XS.fin [] ((True) ∧ (True)) (by kernel_rfl) ⟨trivial, trivial⟩

/-! plugtree/plugref.with -/
def F81 (n : Nat) (vn : Int) (bit : Int) : Option Int := (bif (bit != 0) then (bif (((IntKind.wrap .i64 (vn.tdiv bit)).tmod (2 : Int)) == (1 : Int)) then (some vn) else (some (IntKind.wrap .i64 (vn + bit)))) else none)
theorem F81_ok (n : Nat) (vn : Int) (bit : Int) (r : Int) (h : F81 n vn bit = some r) : PureC Try.prog 81 [(.int .i64 vn), (.int .i64 bit)] (.int .i64 r) [] := by
  refine PureC.mkS Try.func81 rfl rfl ?_
  intro w0 fz0 hfz
  replace h : (bif (bit != 0) then (bif (((IntKind.wrap .i64 (vn.tdiv bit)).tmod (2 : Int)) == (1 : Int)) then (some vn) else (some (IntKind.wrap .i64 (vn + bit)))) else none) = some r := h
  refine TS.seq ?_
  have hq : (True) ∧ (True) := ⟨trivial, trivial⟩
  refine TS.reg [] ?_ ?_
  · apply prop_of ?_ hq
    kernel_rfl
  refine XS.then ?_
  refine TS.seq ?_
  refine TS.seq ?_
  obtain ⟨t1, h⟩ := test_some h
  have hq : (True) ∧ ((True) ∧ ((bit ≠ 0) ∧ (((2 : Int) ≠ 0) ∧ ((True) ∧ (True))))) := ⟨trivial, ⟨trivial, ⟨bne_ok t1, ⟨by decide, ⟨trivial, trivial⟩⟩⟩⟩⟩
  refine TS.reg [] ?_ ?_
  · apply prop_of ?_ hq
    kernel_rfl
  refine XS.then ?_
  rcases bif_some h with ⟨c2, h⟩ | ⟨c3, h⟩
  · refine TS.cond (((IntKind.wrap .i64 (vn.tdiv bit)).tmod (2 : Int)) == (1 : Int)) ?_ (fun e => ?_) (fun e => by rw [c2] at e; cases e)
    · kernel_rfl
    refine TS.seq ?_
    have hq : (True) ∧ ((True) ∧ (True)) := ⟨trivial, ⟨trivial, trivial⟩⟩
    refine TS.reg [] ?_ ?_
    · apply prop_of ?_ hq
      kernel_rfl
    refine XS.then ?_
    refine TS.ret ?_
    refine XS.passR ?_
    obtain rfl : vn = r := Option.some.inj h
    exact XS.fin [] ((True) ∧ (True)) (by kernel_rfl) ⟨trivial, trivial⟩
  · refine TS.cond (((IntKind.wrap .i64 (vn.tdiv bit)).tmod (2 : Int)) == (1 : Int)) ?_ (fun e => by rw [c3] at e; cases e) (fun e => ?_)
    · kernel_rfl
    refine TS.skip ?_
    refine XS.then ?_
    refine TS.seq ?_
    have hq : (True) ∧ ((True) ∧ ((True) ∧ ((True) ∧ (True)))) := ⟨trivial, ⟨trivial, ⟨trivial, ⟨trivial, trivial⟩⟩⟩⟩
    refine TS.reg [] ?_ ?_
    · apply prop_of ?_ hq
      kernel_rfl
    refine XS.then ?_
    refine TS.ret ?_
    obtain rfl : (IntKind.wrap .i64 (vn + bit)) = r := Option.some.inj h
    exact XS.fin [] ((True) ∧ (True)) (by kernel_rfl) ⟨trivial, trivial⟩

/-! plugtree/plugref.HubPlug -/
def F42 (n : Nat) (h_Count : Int) (h_Ports : List (Int × Int)) (port : Int) (there : Bool) : Option (Int × (List (Int × Int)) × Int) := ((F46 n h_Count h_Ports).bind fun y_4 => (bif (y_4 != (0 : Int)) then (some (h_Count, h_Ports, y_4)) else ((F66 n port (1 : Int) h_Count).bind fun y_5 => (bif (!y_5) then (some (h_Count, h_Ports, (12 : Int))) else (bif inb port 16 then (bif ((h_Ports.getD port.toNat ((0 : Int), (0 : Int))).1 == (0 : Int)) then (some (h_Count, h_Ports, (8 : Int))) else (bif ((h_Ports.getD port.toNat ((0 : Int), (0 : Int))).1 == (256 : Int)) then (bif there then ((F81 n ((h_Ports.getD port.toNat ((0 : Int), (0 : Int))).2) (1 : Int)).bind fun y_6 => (some (h_Count, (h_Ports.set port.toNat ((257 : Int), y_6)), (0 : Int)))) else (some (h_Count, h_Ports, (0 : Int)))) else (bif ((h_Ports.getD port.toNat ((0 : Int), (0 : Int))).1 == (259 : Int)) then (bif (!there) then ((F81 n ((h_Ports.getD port.toNat ((0 : Int), (0 : Int))).2) (1 : Int)).bind fun y_7 => ((F81 n y_7 (2 : Int)).bind fun y_8 => (some (h_Count, (h_Ports.set port.toNat ((256 : Int), y_8)), (0 : Int))))) else (some (h_Count, h_Ports, (0 : Int)))) else (bif (!there) then ((F81 n ((h_Ports.getD port.toNat ((0 : Int), (0 : Int))).2) (1 : Int)).bind fun y_9 => (some (h_Count, (h_Ports.set port.toNat ((256 : Int), y_9)), (0 : Int)))) else (some (h_Count, h_Ports, (0 : Int))))))) else none)))))
theorem F42_ok (n : Nat) (h_Count : Int) (h_Ports : List (Int × Int)) (port : Int) (there : Bool) (r : Int × (List (Int × Int)) × Int) (h : F42 n h_Count h_Ports port there = some r) : PureC Try.prog 42 [(.st (.cons (.int .i64 h_Count) (.arr 16 (.st (.pair (.int .i64) (.int .i64))) h_Ports))), (.int .i64 port), (.bool there)] (.tup (.cons (.st (.cons (.int .i64 r.1) (.arr 16 (.st (.pair (.int .i64) (.int .i64))) r.2.1))) (.cons (.int .i64 r.2.2) .nil))) [] := by
  refine PureC.mkS Try.func42 rfl rfl ?_
  intro w0 fz0 hfz
  replace h : ((F46 n h_Count h_Ports).bind fun y_4 => (bif (y_4 != (0 : Int)) then (some (h_Count, h_Ports, y_4)) else ((F66 n port (1 : Int) h_Count).bind fun y_5 => (bif (!y_5) then (some (h_Count, h_Ports, (12 : Int))) else (bif inb port 16 then (bif ((h_Ports.getD port.toNat ((0 : Int), (0 : Int))).1 == (0 : Int)) then (some (h_Count, h_Ports, (8 : Int))) else (bif ((h_Ports.getD port.toNat ((0 : Int), (0 : Int))).1 == (256 : Int)) then (bif there then ((F81 n ((h_Ports.getD port.toNat ((0 : Int), (0 : Int))).2) (1 : Int)).bind fun y_6 => (some (h_Count, (h_Ports.set port.toNat ((257 : Int), y_6)), (0 : Int)))) else (some (h_Count, h_Ports, (0 : Int)))) else (bif ((h_Ports.getD port.toNat ((0 : Int), (0 : Int))).1 == (259 : Int)) then (bif (!there) then ((F81 n ((h_Ports.getD port.toNat ((0 : Int), (0 : Int))).2) (1 : Int)).bind fun y_7 => ((F81 n y_7 (2 : Int)).bind fun y_8 => (some (h_Count, (h_Ports.set port.toNat ((256 : Int), y_8)), (0 : Int))))) else (some (h_Count, h_Ports, (0 : Int)))) else (bif (!there) then ((F81 n ((h_Ports.getD port.toNat ((0 : Int), (0 : Int))).2) (1 : Int)).bind fun y_9 => (some (h_Count, (h_Ports.set port.toNat ((256 : Int), y_9)), (0 : Int)))) else (some (h_Count, h_Ports, (0 : Int))))))) else none))))) = some r := h
  refine TS.seq ?_
  have hq : (True) ∧ ((True) ∧ ((True) ∧ (True))) := ⟨trivial, ⟨trivial, ⟨trivial, trivial⟩⟩⟩
  refine TS.reg [] ?_ ?_
  · apply prop_of ?_ hq
    kernel_rfl
  refine XS.then ?_
  refine TS.seq ?_
  refine TS.seq ?_
  obtain ⟨y_4, hx1, h⟩ := bind_some' h
  have hq : (True) ∧ ((PureC Try.prog 46 [(.st (.cons (.int .i64 h_Count) (.arr 16 (.st (.pair (.int .i64) (.int .i64))) h_Ports)))] (.int .i64 y_4) []) ∧ ((True) ∧ (True))) := ⟨trivial, ⟨F46_ok n h_Count h_Ports y_4 hx1, ⟨trivial, trivial⟩⟩⟩
  refine TS.reg [.none, (.call (.int .i64 y_4) [])] ?_ ?_
  · apply prop_of ?_ hq
    kernel_rfl
  refine XS.then ?_
  refine TS.seq ?_
  have hq : (True) ∧ ((True) ∧ (True)) := ⟨trivial, ⟨trivial, trivial⟩⟩
  refine TS.reg [] ?_ ?_
  · apply prop_of ?_ hq
    kernel_rfl
  refine XS.then ?_
  rcases bif_some h with ⟨c2, h⟩ | ⟨c3, h⟩
  · refine TS.cond (y_4 != (0 : Int)) ?_ (fun e => ?_) (fun e => by rw [c2] at e; cases e)
    · kernel_rfl
    refine TS.seq ?_
    have hq : (True) ∧ ((True) ∧ ((True) ∧ ((True) ∧ (True)))) := ⟨trivial, ⟨trivial, ⟨trivial, ⟨trivial, trivial⟩⟩⟩⟩
    refine TS.reg [] ?_ ?_
    · apply prop_of ?_ hq
      kernel_rfl
    refine XS.then ?_
    refine TS.ret ?_
    refine XS.passR ?_
    obtain rfl : (h_Count, h_Ports, y_4) = r := Option.some.inj h
    exact XS.fin [] ((True) ∧ ((True) ∧ (True))) (by kernel_rfl) ⟨trivial, ⟨trivial, trivial⟩⟩
  · refine TS.cond (y_4 != (0 : Int)) ?_ (fun e => by rw [c3] at e; cases e) (fun e => ?_)
    · kernel_rfl
    refine TS.skip ?_
    refine XS.then ?_
    refine TS.seq ?_
    refine TS.seq ?_
    obtain ⟨y_5, hx4, h⟩ := bind_some' h
    have hq : (True) ∧ ((True) ∧ ((True) ∧ ((PureC Try.prog 66 [(.int .i64 port), (.int .i64 (1 : Int)), (.int .i64 h_Count)] (.bool y_5) []) ∧ ((True) ∧ (True))))) := ⟨trivial, ⟨trivial, ⟨trivial, ⟨F66_ok n port (1 : Int) h_Count y_5 hx4, ⟨trivial, trivial⟩⟩⟩⟩⟩
    refine TS.reg [.none, .none, .none, (.call (.bool y_5) [])] ?_ ?_
    · apply prop_of ?_ hq
      kernel_rfl
    refine XS.then ?_
    rcases bif_some h with ⟨c5, h⟩ | ⟨c6, h⟩
    · refine TS.cond (!y_5) ?_ (fun e => ?_) (fun e => by rw [c5] at e; cases e)
      · kernel_rfl
      refine TS.seq ?_
      have hq : (True) ∧ ((True) ∧ ((True) ∧ (True))) := ⟨trivial, ⟨trivial, ⟨trivial, trivial⟩⟩⟩
      refine TS.reg [] ?_ ?_
      · apply prop_of ?_ hq
        kernel_rfl
      refine XS.then ?_
      refine TS.ret ?_
      refine XS.passR ?_
      obtain rfl : (h_Count, h_Ports, (12 : Int)) = r := Option.some.inj h
      exact XS.fin [] ((True) ∧ ((True) ∧ (True))) (by kernel_rfl) ⟨trivial, ⟨trivial, trivial⟩⟩
    · refine TS.cond (!y_5) ?_ (fun e => by rw [c6] at e; cases e) (fun e => ?_)
      · kernel_rfl
      refine TS.skip ?_
      refine XS.then ?_
      refine TS.seq ?_
      obtain ⟨t7, h⟩ := test_some h
      have hq : (True) ∧ ((True) ∧ ((inR port 16) ∧ ((port.toNat < 16 ∧ (True)) ∧ ((True) ∧ ((True) ∧ (True)))))) := ⟨trivial, ⟨trivial, ⟨inb_ok t7, ⟨⟨inR_lt (inb_ok t7), trivial⟩, ⟨trivial, ⟨trivial, trivial⟩⟩⟩⟩⟩⟩
      refine TS.reg [] ?_ ?_
      · apply prop_of ?_ hq
        kernel_rfl
      refine XS.then ?_
      refine TS.seq ?_
      refine TS.seq ?_
      have hq : (True) ∧ ((True) ∧ (True)) := ⟨trivial, ⟨trivial, trivial⟩⟩
      refine TS.reg [] ?_ ?_
      · apply prop_of ?_ hq
        kernel_rfl
      refine XS.then ?_
      refine TS.block ?_
      refine TS.seq ?_
      have hq : (True) ∧ ((True) ∧ (True)) := ⟨trivial, ⟨trivial, trivial⟩⟩
      refine TS.reg [] ?_ ?_
      · apply prop_of ?_ hq
        kernel_rfl
      refine XS.then ?_
      rcases bif_some h with ⟨c8, h⟩ | ⟨c9, h⟩
      · refine TS.cond ((h_Ports.getD port.toNat ((0 : Int), (0 : Int))).1 == (0 : Int)) ?_ (fun e => ?_) (fun e => by rw [c8] at e; cases e)
        · kernel_rfl
        refine TS.seq ?_
        have hq : (True) ∧ ((True) ∧ ((True) ∧ (True))) := ⟨trivial, ⟨trivial, ⟨trivial, trivial⟩⟩⟩
        refine TS.reg [] ?_ ?_
        · apply prop_of ?_ hq
          kernel_rfl
        refine XS.then ?_
        refine TS.ret ?_
        refine XS.blockRet ?_
        refine XS.passR ?_
        obtain rfl : (h_Count, h_Ports, (8 : Int)) = r := Option.some.inj h
        exact XS.fin [] ((True) ∧ ((True) ∧ (True))) (by kernel_rfl) ⟨trivial, ⟨trivial, trivial⟩⟩
      · refine TS.cond ((h_Ports.getD port.toNat ((0 : Int), (0 : Int))).1 == (0 : Int)) ?_ (fun e => by rw [c9] at e; cases e) (fun e => ?_)
        · kernel_rfl
        refine TS.seq ?_
        have hq : (True) ∧ ((True) ∧ (True)) := ⟨trivial, ⟨trivial, trivial⟩⟩
        refine TS.reg [] ?_ ?_
        · apply prop_of ?_ hq
          kernel_rfl
        refine XS.then ?_
        rcases bif_some h with ⟨c10, h⟩ | ⟨c11, h⟩
        · refine TS.cond ((h_Ports.getD port.toNat ((0 : Int), (0 : Int))).1 == (256 : Int)) ?_ (fun e => ?_) (fun e => by rw [c10] at e; cases e)
          · kernel_rfl
          refine TS.seq ?_
          have hq : (True) ∧ (True) := ⟨trivial, trivial⟩
          refine TS.reg [] ?_ ?_
          · apply prop_of ?_ hq
            kernel_rfl
          refine XS.then ?_
          rcases bif_some h with ⟨c12, h⟩ | ⟨c13, h⟩
          · refine TS.cond there ?_ (fun e => ?_) (fun e => by rw [c12] at e; cases e)
            · kernel_rfl
            obtain ⟨y_6, hx14, h⟩ := bind_some' h
            have hq : (True) ∧ ((True) ∧ ((True) ∧ ((PureC Try.prog 81 [(.int .i64 (h_Ports.getD port.toNat ((0 : Int), (0 : Int))).2), (.int .i64 (1 : Int))] (.int .i64 y_6) []) ∧ (((True) ∧ ((True) ∧ (True))) ∧ ((True) ∧ ((inR port 16) ∧ ((port.toNat < 16 ∧ (True)) ∧ (True)))))))) := ⟨trivial, ⟨trivial, ⟨trivial, ⟨F81_ok n ((h_Ports.getD port.toNat ((0 : Int), (0 : Int))).2) (1 : Int) y_6 hx14, ⟨⟨trivial, ⟨trivial, trivial⟩⟩, ⟨trivial, ⟨inb_ok t7, ⟨⟨inR_lt (inb_ok t7), trivial⟩, trivial⟩⟩⟩⟩⟩⟩⟩⟩
            refine TS.reg [.none, .none, .none, (.call (.int .i64 y_6) [])] ?_ ?_
            · apply prop_of ?_ hq
              kernel_rfl
            refine XS.blockEnd ?_
            refine XS.then ?_
            refine TS.seq ?_
            have hq : (True) ∧ ((True) ∧ ((True) ∧ (True))) := ⟨trivial, ⟨trivial, ⟨trivial, trivial⟩⟩⟩
            refine TS.reg [] ?_ ?_
            · apply prop_of ?_ hq
              kernel_rfl
            refine XS.then ?_
            refine TS.ret ?_
            obtain rfl : (h_Count, (h_Ports.set port.toNat ((257 : Int), y_6)), (0 : Int)) = r := Option.some.inj h
            exact XS.fin [] ((True) ∧ ((True) ∧ (True))) (by kernel_rfl) ⟨trivial, ⟨trivial, trivial⟩⟩
          · refine TS.cond there ?_ (fun e => by rw [c13] at e; cases e) (fun e => ?_)
            · kernel_rfl
            refine TS.skip ?_
            refine XS.blockEnd ?_
            refine XS.then ?_
            refine TS.seq ?_
            have hq : (True) ∧ ((True) ∧ ((True) ∧ (True))) := ⟨trivial, ⟨trivial, ⟨trivial, trivial⟩⟩⟩
            refine TS.reg [] ?_ ?_
            · apply prop_of ?_ hq
              kernel_rfl
            refine XS.then ?_
            refine TS.ret ?_
            obtain rfl : (h_Count, h_Ports, (0 : Int)) = r := Option.some.inj h
            exact XS.fin [] ((True) ∧ ((True) ∧ (True))) (by kernel_rfl) ⟨trivial, ⟨trivial, trivial⟩⟩
        · refine TS.cond ((h_Ports.getD port.toNat ((0 : Int), (0 : Int))).1 == (256 : Int)) ?_ (fun e => by rw [c11] at e; cases e) (fun e => ?_)
          · kernel_rfl
          refine TS.seq ?_
          have hq : (True) ∧ ((True) ∧ (True)) := ⟨trivial, ⟨trivial, trivial⟩⟩
          refine TS.reg [] ?_ ?_
          · apply prop_of ?_ hq
            kernel_rfl
          refine XS.then ?_
          rcases bif_some h with ⟨c15, h⟩ | ⟨c16, h⟩
          · refine TS.cond ((h_Ports.getD port.toNat ((0 : Int), (0 : Int))).1 == (259 : Int)) ?_ (fun e => ?_) (fun e => by rw [c15] at e; cases e)
            · kernel_rfl
            refine TS.seq ?_
            have hq : (True) ∧ ((True) ∧ (True)) := ⟨trivial, ⟨trivial, trivial⟩⟩
            refine TS.reg [] ?_ ?_
            · apply prop_of ?_ hq
              kernel_rfl
            refine XS.then ?_
            rcases bif_some h with ⟨c17, h⟩ | ⟨c18, h⟩
            · refine TS.cond (!there) ?_ (fun e => ?_) (fun e => by rw [c17] at e; cases e)
              · kernel_rfl
              obtain ⟨y_7, hx19, h⟩ := bind_some' h
              obtain ⟨y_8, hx20, h⟩ := bind_some' h
              have hq : (True) ∧ ((True) ∧ ((True) ∧ ((PureC Try.prog 81 [(.int .i64 (h_Ports.getD port.toNat ((0 : Int), (0 : Int))).2), (.int .i64 (1 : Int))] (.int .i64 y_7) []) ∧ ((PureC Try.prog 81 [(.int .i64 y_7), (.int .i64 (2 : Int))] (.int .i64 y_8) []) ∧ (((True) ∧ ((True) ∧ (True))) ∧ ((True) ∧ ((inR port 16) ∧ ((port.toNat < 16 ∧ (True)) ∧ (True))))))))) := ⟨trivial, ⟨trivial, ⟨trivial, ⟨F81_ok n ((h_Ports.getD port.toNat ((0 : Int), (0 : Int))).2) (1 : Int) y_7 hx19, ⟨F81_ok n y_7 (2 : Int) y_8 hx20, ⟨⟨trivial, ⟨trivial, trivial⟩⟩, ⟨trivial, ⟨inb_ok t7, ⟨⟨inR_lt (inb_ok t7), trivial⟩, trivial⟩⟩⟩⟩⟩⟩⟩⟩⟩
              refine TS.reg [.none, .none, .none, (.call (.int .i64 y_7) []), (.call (.int .i64 y_8) [])] ?_ ?_
              · apply prop_of ?_ hq
                kernel_rfl
              refine XS.blockEnd ?_
              refine XS.then ?_
              refine TS.seq ?_
              have hq : (True) ∧ ((True) ∧ ((True) ∧ (True))) := ⟨trivial, ⟨trivial, ⟨trivial, trivial⟩⟩⟩
              refine TS.reg [] ?_ ?_
              · apply prop_of ?_ hq
                kernel_rfl
              refine XS.then ?_
              refine TS.ret ?_
              obtain rfl : (h_Count, (h_Ports.set port.toNat ((256 : Int), y_8)), (0 : Int)) = r := Option.some.inj h
              exact XS.fin [] ((True) ∧ ((True) ∧ (True))) (by kernel_rfl) ⟨trivial, ⟨trivial, trivial⟩⟩
            · refine TS.cond (!there) ?_ (fun e => by rw [c18] at e; cases e) (fun e => ?_)
              · kernel_rfl
              refine TS.skip ?_
              refine XS.blockEnd ?_
              refine XS.then ?_
              refine TS.seq ?_
              have hq : (True) ∧ ((True) ∧ ((True) ∧ (True))) := ⟨trivial, ⟨trivial, ⟨trivial, trivial⟩⟩⟩
              refine TS.reg [] ?_ ?_
              · apply prop_of ?_ hq
                kernel_rfl
              refine XS.then ?_
              refine TS.ret ?_
              obtain rfl : (h_Count, h_Ports, (0 : Int)) = r := Option.some.inj h
              exact XS.fin [] ((True) ∧ ((True) ∧ (True))) (by kernel_rfl) ⟨trivial, ⟨trivial, trivial⟩⟩
          · refine TS.cond ((h_Ports.getD port.toNat ((0 : Int), (0 : Int))).1 == (259 : Int)) ?_ (fun e => by rw [c16] at e; cases e) (fun e => ?_)
            · kernel_rfl
            refine TS.seq ?_
            have hq : (True) ∧ ((True) ∧ (True)) := ⟨trivial, ⟨trivial, trivial⟩⟩
            refine TS.reg [] ?_ ?_
            · apply prop_of ?_ hq
              kernel_rfl
            refine XS.then ?_
            rcases bif_some h with ⟨c21, h⟩ | ⟨c22, h⟩
            · refine TS.cond (!there) ?_ (fun e => ?_) (fun e => by rw [c21] at e; cases e)
              · kernel_rfl
              obtain ⟨y_9, hx23, h⟩ := bind_some' h
              have hq : (True) ∧ ((True) ∧ ((True) ∧ ((PureC Try.prog 81 [(.int .i64 (h_Ports.getD port.toNat ((0 : Int), (0 : Int))).2), (.int .i64 (1 : Int))] (.int .i64 y_9) []) ∧ (((True) ∧ ((True) ∧ (True))) ∧ ((True) ∧ ((inR port 16) ∧ ((port.toNat < 16 ∧ (True)) ∧ (True)))))))) := ⟨trivial, ⟨trivial, ⟨trivial, ⟨F81_ok n ((h_Ports.getD port.toNat ((0 : Int), (0 : Int))).2) (1 : Int) y_9 hx23, ⟨⟨trivial, ⟨trivial, trivial⟩⟩, ⟨trivial, ⟨inb_ok t7, ⟨⟨inR_lt (inb_ok t7), trivial⟩, trivial⟩⟩⟩⟩⟩⟩⟩⟩
              refine TS.reg [.none, .none, .none, (.call (.int .i64 y_9) [])] ?_ ?_
              · apply prop_of ?_ hq
                kernel_rfl
              refine XS.blockEnd ?_
              refine XS.then ?_
              refine TS.seq ?_
              have hq : (True) ∧ ((True) ∧ ((True) ∧ (True))) := ⟨trivial, ⟨trivial, ⟨trivial, trivial⟩⟩⟩
              refine TS.reg [] ?_ ?_
              · apply prop_of ?_ hq
                kernel_rfl
              refine XS.then ?_
              refine TS.ret ?_
              obtain rfl : (h_Count, (h_Ports.set port.toNat ((256 : Int), y_9)), (0 : Int)) = r := Option.some.inj h
              exact XS.fin [] ((True) ∧ ((True) ∧ (True))) (by kernel_rfl) ⟨trivial, ⟨trivial, trivial⟩⟩
            · refine TS.cond (!there) ?_ (fun e => by rw [c22] at e; cases e) (fun e => ?_)
              · kernel_rfl
              refine TS.skip ?_
              refine XS.blockEnd ?_
              refine XS.then ?_
              refine TS.seq ?_
              have hq : (True) ∧ ((True) ∧ ((True) ∧ (True))) := ⟨trivial, ⟨trivial, ⟨trivial, trivial⟩⟩⟩
              refine TS.reg [] ?_ ?_
              · apply prop_of ?_ hq
                kernel_rfl
              refine XS.then ?_
              refine TS.ret ?_
              obtain rfl : (h_Count, h_Ports, (0 : Int)) = r := Option.some.inj h
              exact XS.fin [] ((True) ∧ ((True) ∧ (True))) (by kernel_rfl) ⟨trivial, ⟨trivial, trivial⟩⟩

/-! plugtree/hub.Tick -/
def F43_l2 (n : Nat) (h_Count : Int) (k43_2 : (Int × (List (Int × Int))) → Option (Int × (List (Int × Int)) × Int)) : (Int × (List (Int × Int))) → Option (Int × (List (Int × Int)) × Int)
  | (x, m0) => (bif (decide (x < (16 : Int))) then (bif inb x 16 then (bif ((bitsI .and .i64 ((m0.getD x.toNat ((0 : Int), (0 : Int))).1) (16 : Int)) != (0 : Int)) then (k43_2 ((IntKind.wrap .i64 (x + (1 : Int))), ((m0.set x.toNat ((bitsI .or .i64 (bitsI .andNot .i64 ((m0.getD x.toNat ((0 : Int), (0 : Int))).1) (16 : Int)) (2 : Int)), (m0.getD x.toNat ((0 : Int), (0 : Int))).2)).set x.toNat (((m0.set x.toNat ((bitsI .or .i64 (bitsI .andNot .i64 ((m0.getD x.toNat ((0 : Int), (0 : Int))).1) (16 : Int)) (2 : Int)), (m0.getD x.toNat ((0 : Int), (0 : Int))).2)).getD x.toNat ((0 : Int), (0 : Int))).1, (bitsI .or .i64 (((m0.set x.toNat ((bitsI .or .i64 (bitsI .andNot .i64 ((m0.getD x.toNat ((0 : Int), (0 : Int))).1) (16 : Int)) (2 : Int)), (m0.getD x.toNat ((0 : Int), (0 : Int))).2)).getD x.toNat ((0 : Int), (0 : Int))).2) (16 : Int)))))) else (k43_2 ((IntKind.wrap .i64 (x + (1 : Int))), m0))) else none) else (some (h_Count, m0, (0 : Int))))
def F43 (n : Nat) (h_Count : Int) (h_Ports : List (Int × Int)) : Option (Int × (List (Int × Int)) × Int) := ((F45 n h_Count h_Ports).bind fun y_4 => (bif (y_4 != (0 : Int)) then (some (h_Count, h_Ports, y_4)) else (loopF (F43_l2 n h_Count) n ((0 : Int), h_Ports))))
theorem F43_ok (n : Nat) (h_Count : Int) (h_Ports : List (Int × Int)) (r : Int × (List (Int × Int)) × Int) (h : F43 n h_Count h_Ports = some r) : PureC Try.prog 43 [(.st (.cons (.int .i64 h_Count) (.arr 16 (.st (.pair (.int .i64) (.int .i64))) h_Ports)))] (.tup (.cons (.st (.cons (.int .i64 r.1) (.arr 16 (.st (.pair (.int .i64) (.int .i64))) r.2.1))) (.cons (.int .i64 r.2.2) .nil))) [] := by
  refine PureC.mkS Try.func43 rfl rfl ?_
  intro w0 fz0 hfz
  replace h : ((F45 n h_Count h_Ports).bind fun y_4 => (bif (y_4 != (0 : Int)) then (some (h_Count, h_Ports, y_4)) else (loopF (F43_l2 n h_Count) n ((0 : Int), h_Ports)))) = some r := h
  refine TS.seq ?_
  have hq : (True) ∧ ((True) ∧ ((True) ∧ (True))) := ⟨trivial, ⟨trivial, ⟨trivial, trivial⟩⟩⟩
  refine TS.reg [] ?_ ?_
  · apply prop_of ?_ hq
    kernel_rfl
  refine XS.then ?_
  refine TS.seq ?_
  refine TS.seq ?_
  obtain ⟨y_4, hx1, h⟩ := bind_some' h
  have hq : (True) ∧ ((PureC Try.prog 45 [(.st (.cons (.int .i64 h_Count) (.arr 16 (.st (.pair (.int .i64) (.int .i64))) h_Ports)))] (.int .i64 y_4) []) ∧ ((True) ∧ (True))) := ⟨trivial, ⟨F45_ok n h_Count h_Ports y_4 hx1, ⟨trivial, trivial⟩⟩⟩
  refine TS.reg [.none, (.call (.int .i64 y_4) [])] ?_ ?_
  · apply prop_of ?_ hq
    kernel_rfl
  refine XS.then ?_
  refine TS.seq ?_
  have hq : (True) ∧ ((True) ∧ (True)) := ⟨trivial, ⟨trivial, trivial⟩⟩
  refine TS.reg [] ?_ ?_
  · apply prop_of ?_ hq
    kernel_rfl
  refine XS.then ?_
  rcases bif_some h with ⟨c2, h⟩ | ⟨c3, h⟩
  · refine TS.cond (y_4 != (0 : Int)) ?_ (fun e => ?_) (fun e => by rw [c2] at e; cases e)
    · kernel_rfl
    refine TS.seq ?_
    have hq : (True) ∧ ((True) ∧ ((True) ∧ ((True) ∧ (True)))) := ⟨trivial, ⟨trivial, ⟨trivial, ⟨trivial, trivial⟩⟩⟩⟩
    refine TS.reg [] ?_ ?_
    · apply prop_of ?_ hq
      kernel_rfl
    refine XS.then ?_
    refine TS.ret ?_
    refine XS.passR ?_
    obtain rfl : (h_Count, h_Ports, y_4) = r := Option.some.inj h
    exact XS.fin [] ((True) ∧ ((True) ∧ (True))) (by kernel_rfl) ⟨trivial, ⟨trivial, trivial⟩⟩
  · refine TS.cond (y_4 != (0 : Int)) ?_ (fun e => by rw [c3] at e; cases e) (fun e => ?_)
    · kernel_rfl
    refine TS.skip ?_
    refine XS.then ?_
    refine TS.seq ?_
    refine TS.seq ?_
    have hq : (True) ∧ (True) := ⟨trivial, trivial⟩
    refine TS.reg [] ?_ ?_
    · apply prop_of ?_ hq
      kernel_rfl
    refine XS.then ?_
    refine TS.block ?_
    refine TS.reLoop [0, 1] (mkMask 43 [1, 2, 13]) (D := Int × (List (Int × Int))) (fun d => match d with | (x, m0) => (mkTs 43 [(1, (.ptr 0 [])), (2, (.ptr 1 [])), (13, (.int .i64 x))], [(.box 70 (.st (.cons (.int .i64 h_Count) (.arr 16 (.st (.pair (.int .i64) (.int .i64))) m0)))), (.box 70 (.st (.cons (.int .i64 (0 : Int)) (.arr 16 (.st (.pair (.int .i64) (.int .i64))) (List.replicate 16 ((0 : Int), (0 : Int)))))))])) (fun n' d => loopF (F43_l2 n h_Count) n' d = some r) n ((0 : Int), h_Ports) h ?_ (fun d => loopF_zero _ d r) ?_
    · kernel_rfl
    · rintro n2 ⟨x, m0⟩ h
      replace h : (bif (decide (x < (16 : Int))) then (bif inb x 16 then (bif ((bitsI .and .i64 ((m0.getD x.toNat ((0 : Int), (0 : Int))).1) (16 : Int)) != (0 : Int)) then ((loopF (F43_l2 n h_Count) n2) ((IntKind.wrap .i64 (x + (1 : Int))), ((m0.set x.toNat ((bitsI .or .i64 (bitsI .andNot .i64 ((m0.getD x.toNat ((0 : Int), (0 : Int))).1) (16 : Int)) (2 : Int)), (m0.getD x.toNat ((0 : Int), (0 : Int))).2)).set x.toNat (((m0.set x.toNat ((bitsI .or .i64 (bitsI .andNot .i64 ((m0.getD x.toNat ((0 : Int), (0 : Int))).1) (16 : Int)) (2 : Int)), (m0.getD x.toNat ((0 : Int), (0 : Int))).2)).getD x.toNat ((0 : Int), (0 : Int))).1, (bitsI .or .i64 (((m0.set x.toNat ((bitsI .or .i64 (bitsI .andNot .i64 ((m0.getD x.toNat ((0 : Int), (0 : Int))).1) (16 : Int)) (2 : Int)), (m0.getD x.toNat ((0 : Int), (0 : Int))).2)).getD x.toNat ((0 : Int), (0 : Int))).2) (16 : Int)))))) else ((loopF (F43_l2 n h_Count) n2) ((IntKind.wrap .i64 (x + (1 : Int))), m0))) else none) else (some (h_Count, m0, (0 : Int)))) = some r := h
      refine TS.seq ?_
      have hq : (True) ∧ (True) := ⟨trivial, trivial⟩
      refine TS.reg [] ?_ ?_
      · apply prop_of ?_ hq
        kernel_rfl
      refine XS.then ?_
      refine TS.seq ?_
      rcases bif_some h with ⟨c4, h⟩ | ⟨c5, h⟩
      · refine TS.cond (decide (x < (16 : Int))) ?_ (fun e => ?_) (fun e => by rw [c4] at e; cases e)
        · kernel_rfl
        refine TS.skip ?_
        refine XS.then ?_
        refine TS.seq ?_
        refine TS.block ?_
        refine TS.seq ?_
        have hq : (True) ∧ ((True) ∧ (True)) := ⟨trivial, ⟨trivial, trivial⟩⟩
        refine TS.reg [] ?_ ?_
        · apply prop_of ?_ hq
          kernel_rfl
        refine XS.then ?_
        refine TS.seq ?_
        obtain ⟨t6, h⟩ := test_some h
        have hq : (True) ∧ ((True) ∧ ((inR x 16) ∧ ((True) ∧ (True)))) := ⟨trivial, ⟨trivial, ⟨inb_ok t6, ⟨trivial, trivial⟩⟩⟩⟩
        refine TS.reg [] ?_ ?_
        · apply prop_of ?_ hq
          kernel_rfl
        refine XS.then ?_
        refine TS.seq ?_
        have hq : (True) ∧ ((True) ∧ ((True) ∧ ((x.toNat < 16 ∧ (True)) ∧ ((True) ∧ ((True) ∧ (True)))))) := ⟨trivial, ⟨trivial, ⟨trivial, ⟨⟨inR_lt (inb_ok t6), trivial⟩, ⟨trivial, ⟨trivial, trivial⟩⟩⟩⟩⟩⟩
        refine TS.reg [] ?_ ?_
        · apply prop_of ?_ hq
          kernel_rfl
        refine XS.then ?_
        rcases bif_some h with ⟨c7, h⟩ | ⟨c8, h⟩
        · refine TS.cond ((bitsI .and .i64 ((m0.getD x.toNat ((0 : Int), (0 : Int))).1) (16 : Int)) != (0 : Int)) ?_ (fun e => ?_) (fun e => by rw [c7] at e; cases e)
          · kernel_rfl
          refine TS.seq ?_
          have hq : (True) ∧ ((True) ∧ ((True) ∧ ((True) ∧ ((x.toNat < 16 ∧ (True)) ∧ ((True) ∧ ((True) ∧ ((True) ∧ ((True) ∧ ((x.toNat < 16 ∧ (True)) ∧ (True)))))))))) := ⟨trivial, ⟨trivial, ⟨trivial, ⟨trivial, ⟨⟨inR_lt (inb_ok t6), trivial⟩, ⟨trivial, ⟨trivial, ⟨trivial, ⟨trivial, ⟨⟨inR_lt (inb_ok t6), trivial⟩, trivial⟩⟩⟩⟩⟩⟩⟩⟩⟩⟩
          refine TS.reg [] ?_ ?_
          · apply prop_of ?_ hq
            kernel_rfl
          refine XS.then ?_
          have hq : (True) ∧ ((True) ∧ ((True) ∧ ((x.toNat < 16 ∧ (True)) ∧ ((True) ∧ ((True) ∧ ((True) ∧ ((x.toNat < 16 ∧ (True)) ∧ (True)))))))) := ⟨trivial, ⟨trivial, ⟨trivial, ⟨⟨inR_lt (inb_ok t6), trivial⟩, ⟨trivial, ⟨trivial, ⟨trivial, ⟨⟨inR_lt (inb_ok t6), trivial⟩, trivial⟩⟩⟩⟩⟩⟩⟩⟩
          refine TS.reg [] ?_ ?_
          · apply prop_of ?_ hq
            kernel_rfl
          refine XS.blockEnd ?_
          refine XS.then ?_
          have hq : (True) ∧ ((True) ∧ (True)) := ⟨trivial, ⟨trivial, trivial⟩⟩
          refine TS.reg [] ?_ ?_
          · apply prop_of ?_ hq
            kernel_rfl
          refine XS.reAny [0, 1] (mkMask 43 [1, 2, 13]) ((IntKind.wrap .i64 (x + (1 : Int))), ((m0.set x.toNat ((bitsI .or .i64 (bitsI .andNot .i64 ((m0.getD x.toNat ((0 : Int), (0 : Int))).1) (16 : Int)) (2 : Int)), (m0.getD x.toNat ((0 : Int), (0 : Int))).2)).set x.toNat (((m0.set x.toNat ((bitsI .or .i64 (bitsI .andNot .i64 ((m0.getD x.toNat ((0 : Int), (0 : Int))).1) (16 : Int)) (2 : Int)), (m0.getD x.toNat ((0 : Int), (0 : Int))).2)).getD x.toNat ((0 : Int), (0 : Int))).1, (bitsI .or .i64 (((m0.set x.toNat ((bitsI .or .i64 (bitsI .andNot .i64 ((m0.getD x.toNat ((0 : Int), (0 : Int))).1) (16 : Int)) (2 : Int)), (m0.getD x.toNat ((0 : Int), (0 : Int))).2)).getD x.toNat ((0 : Int), (0 : Int))).2) (16 : Int))))) h ?_
          kernel_rfl
        · refine TS.cond ((bitsI .and .i64 ((m0.getD x.toNat ((0 : Int), (0 : Int))).1) (16 : Int)) != (0 : Int)) ?_ (fun e => by rw [c8] at e; cases e) (fun e => ?_)
          · kernel_rfl
          refine TS.skip ?_
          refine XS.blockEnd ?_
          refine XS.then ?_
          have hq : (True) ∧ ((True) ∧ (True)) := ⟨trivial, ⟨trivial, trivial⟩⟩
          refine TS.reg [] ?_ ?_
          · apply prop_of ?_ hq
            kernel_rfl
          refine XS.reAny [0, 1] (mkMask 43 [1, 2, 13]) ((IntKind.wrap .i64 (x + (1 : Int))), m0) h ?_
          kernel_rfl
      · refine TS.cond (decide (x < (16 : Int))) ?_ (fun e => by rw [c5] at e; cases e) (fun e => ?_)
        · kernel_rfl
        refine TS.exit ?_
        refine XS.passE ?_
        refine XS.passE ?_
        refine XS.out ?_
        refine XS.then ?_
        refine TS.seq ?_
        have hq : (True) ∧ ((True) ∧ ((True) ∧ (True))) := ⟨trivial, ⟨trivial, ⟨trivial, trivial⟩⟩⟩
        refine TS.reg [] ?_ ?_
        · apply prop_of ?_ hq
          kernel_rfl
        refine XS.then ?_
        refine TS.ret ?_
        obtain rfl : (h_Count, m0, (0 : Int)) = r := Option.some.inj h
        exact XS.fin [] ((True) ∧ ((True) ∧ (True))) (by kernel_rfl) ⟨trivial, ⟨trivial, trivial⟩⟩

/-! plugtree/plugref.HubTick -/
def F44_l2 (n : Nat) (h_Count : Int) (h_Ports : List (Int × Int)) (k44_2 : (Int × (List (Int × Int))) → Option (Int × (List (Int × Int)) × Int)) : (Int × (List (Int × Int))) → Option (Int × (List (Int × Int)) × Int)
  | (x, m0) => (bif (decide (x < (16 : Int))) then (bif inb x 16 then (bif ((h_Ports.getD x.toNat ((0 : Int), (0 : Int))).1 == (273 : Int)) then ((F81 n ((h_Ports.getD x.toNat ((0 : Int), (0 : Int))).2) (16 : Int)).bind fun y_5 => (k44_2 ((IntKind.wrap .i64 (x + (1 : Int))), (m0.set x.toNat ((259 : Int), y_5))))) else (k44_2 ((IntKind.wrap .i64 (x + (1 : Int))), m0))) else none) else (some (h_Count, m0, (0 : Int))))
def F44 (n : Nat) (h_Count : Int) (h_Ports : List (Int × Int)) : Option (Int × (List (Int × Int)) × Int) := ((F46 n h_Count h_Ports).bind fun y_4 => (bif (y_4 != (0 : Int)) then (some (h_Count, h_Ports, y_4)) else (loopF (F44_l2 n h_Count h_Ports) n ((0 : Int), h_Ports))))
theorem F44_ok (n : Nat) (h_Count : Int) (h_Ports : List (Int × Int)) (r : Int × (List (Int × Int)) × Int) (h : F44 n h_Count h_Ports = some r) : PureC Try.prog 44 [(.st (.cons (.int .i64 h_Count) (.arr 16 (.st (.pair (.int .i64) (.int .i64))) h_Ports)))] (.tup (.cons (.st (.cons (.int .i64 r.1) (.arr 16 (.st (.pair (.int .i64) (.int .i64))) r.2.1))) (.cons (.int .i64 r.2.2) .nil))) [] := by
  refine PureC.mkS Try.func44 rfl rfl ?_
  intro w0 fz0 hfz
  replace h : ((F46 n h_Count h_Ports).bind fun y_4 => (bif (y_4 != (0 : Int)) then (some (h_Count, h_Ports, y_4)) else (loopF (F44_l2 n h_Count h_Ports) n ((0 : Int), h_Ports)))) = some r := h
  refine TS.seq ?_
  have hq : (True) ∧ ((True) ∧ ((True) ∧ (True))) := ⟨trivial, ⟨trivial, ⟨trivial, trivial⟩⟩⟩
  refine TS.reg [] ?_ ?_
  · apply prop_of ?_ hq
    kernel_rfl
  refine XS.then ?_
  refine TS.seq ?_
  refine TS.seq ?_
  obtain ⟨y_4, hx1, h⟩ := bind_some' h
  have hq : (True) ∧ ((PureC Try.prog 46 [(.st (.cons (.int .i64 h_Count) (.arr 16 (.st (.pair (.int .i64) (.int .i64))) h_Ports)))] (.int .i64 y_4) []) ∧ ((True) ∧ (True))) := ⟨trivial, ⟨F46_ok n h_Count h_Ports y_4 hx1, ⟨trivial, trivial⟩⟩⟩
  refine TS.reg [.none, (.call (.int .i64 y_4) [])] ?_ ?_
  · apply prop_of ?_ hq
    kernel_rfl
  refine XS.then ?_
  refine TS.seq ?_
  have hq : (True) ∧ ((True) ∧ (True)) := ⟨trivial, ⟨trivial, trivial⟩⟩
  refine TS.reg [] ?_ ?_
  · apply prop_of ?_ hq
    kernel_rfl
  refine XS.then ?_
  rcases bif_some h with ⟨c2, h⟩ | ⟨c3, h⟩
  · refine TS.cond (y_4 != (0 : Int)) ?_ (fun e => ?_) (fun e => by rw [c2] at e; cases e)
    · kernel_rfl
    refine TS.seq ?_
    have hq : (True) ∧ ((True) ∧ ((True) ∧ ((True) ∧ (True)))) := ⟨trivial, ⟨trivial, ⟨trivial, ⟨trivial, trivial⟩⟩⟩⟩
    refine TS.reg [] ?_ ?_
    · apply prop_of ?_ hq
      kernel_rfl
    refine XS.then ?_
    refine TS.ret ?_
    refine XS.passR ?_
    obtain rfl : (h_Count, h_Ports, y_4) = r := Option.some.inj h
    exact XS.fin [] ((True) ∧ ((True) ∧ (True))) (by kernel_rfl) ⟨trivial, ⟨trivial, trivial⟩⟩
  · refine TS.cond (y_4 != (0 : Int)) ?_ (fun e => by rw [c3] at e; cases e) (fun e => ?_)
    · kernel_rfl
    refine TS.skip ?_
    refine XS.then ?_
    refine TS.seq ?_
    refine TS.seq ?_
    have hq : (True) ∧ ((True) ∧ ((True) ∧ (True))) := ⟨trivial, ⟨trivial, ⟨trivial, trivial⟩⟩⟩
    refine TS.reg [] ?_ ?_
    · apply prop_of ?_ hq
      kernel_rfl
    refine XS.then ?_
    refine TS.block ?_
    refine TS.reLoop [0, 1] (mkMask 31 [1, 2, 14, 15]) (D := Int × (List (Int × Int))) (fun d => match d with | (x, m0) => (mkTs 31 [(1, (.ptr 0 [])), (2, (.ptr 1 [])), (14, (.arr 16 (.st (.pair (.int .i64) (.int .i64))) h_Ports)), (15, (.int .i64 x))], [(.box 70 (.st (.cons (.int .i64 h_Count) (.arr 16 (.st (.pair (.int .i64) (.int .i64))) m0)))), (.box 70 (.st (.cons (.int .i64 (0 : Int)) (.arr 16 (.st (.pair (.int .i64) (.int .i64))) (List.replicate 16 ((0 : Int), (0 : Int)))))))])) (fun n' d => loopF (F44_l2 n h_Count h_Ports) n' d = some r) n ((0 : Int), h_Ports) h ?_ (fun d => loopF_zero _ d r) ?_
    · kernel_rfl
    · rintro n2 ⟨x, m0⟩ h
      replace h : (bif (decide (x < (16 : Int))) then (bif inb x 16 then (bif ((h_Ports.getD x.toNat ((0 : Int), (0 : Int))).1 == (273 : Int)) then ((F81 n ((h_Ports.getD x.toNat ((0 : Int), (0 : Int))).2) (16 : Int)).bind fun y_5 => ((loopF (F44_l2 n h_Count h_Ports) n2) ((IntKind.wrap .i64 (x + (1 : Int))), (m0.set x.toNat ((259 : Int), y_5))))) else ((loopF (F44_l2 n h_Count h_Ports) n2) ((IntKind.wrap .i64 (x + (1 : Int))), m0))) else none) else (some (h_Count, m0, (0 : Int)))) = some r := h
      refine TS.seq ?_
      have hq : (True) ∧ (True) := ⟨trivial, trivial⟩
      refine TS.reg [] ?_ ?_
      · apply prop_of ?_ hq
        kernel_rfl
      refine XS.then ?_
      refine TS.seq ?_
      rcases bif_some h with ⟨c4, h⟩ | ⟨c5, h⟩
      · refine TS.cond (decide (x < (16 : Int))) ?_ (fun e => ?_) (fun e => by rw [c4] at e; cases e)
        · kernel_rfl
        refine TS.skip ?_
        refine XS.then ?_
        refine TS.seq ?_
        refine TS.block ?_
        refine TS.seq ?_
        obtain ⟨t6, h⟩ := test_some h
        have hq : (True) ∧ ((inR x 16) ∧ ((True) ∧ ((True) ∧ ((True) ∧ (True))))) := ⟨trivial, ⟨inb_ok t6, ⟨trivial, ⟨trivial, ⟨trivial, trivial⟩⟩⟩⟩⟩
        refine TS.reg [] ?_ ?_
        · apply prop_of ?_ hq
          kernel_rfl
        refine XS.then ?_
        refine TS.seq ?_
        have hq : (True) ∧ ((True) ∧ ((True) ∧ (True))) := ⟨trivial, ⟨trivial, ⟨trivial, trivial⟩⟩⟩
        refine TS.reg [] ?_ ?_
        · apply prop_of ?_ hq
          kernel_rfl
        refine XS.then ?_
        rcases bif_some h with ⟨c7, h⟩ | ⟨c8, h⟩
        · refine TS.cond ((h_Ports.getD x.toNat ((0 : Int), (0 : Int))).1 == (273 : Int)) ?_ (fun e => ?_) (fun e => by rw [c7] at e; cases e)
          · kernel_rfl
          obtain ⟨y_5, hx9, h⟩ := bind_some' h
          have hq : (True) ∧ ((True) ∧ ((True) ∧ ((PureC Try.prog 81 [(.int .i64 (h_Ports.getD x.toNat ((0 : Int), (0 : Int))).2), (.int .i64 (16 : Int))] (.int .i64 y_5) []) ∧ (((True) ∧ ((True) ∧ (True))) ∧ ((True) ∧ ((inR x 16) ∧ ((x.toNat < 16 ∧ (True)) ∧ (True)))))))) := ⟨trivial, ⟨trivial, ⟨trivial, ⟨F81_ok n ((h_Ports.getD x.toNat ((0 : Int), (0 : Int))).2) (16 : Int) y_5 hx9, ⟨⟨trivial, ⟨trivial, trivial⟩⟩, ⟨trivial, ⟨inb_ok t6, ⟨⟨inR_lt (inb_ok t6), trivial⟩, trivial⟩⟩⟩⟩⟩⟩⟩⟩
          refine TS.reg [.none, .none, .none, (.call (.int .i64 y_5) [])] ?_ ?_
          · apply prop_of ?_ hq
            kernel_rfl
          refine XS.blockEnd ?_
          refine XS.then ?_
          have hq : (True) ∧ ((True) ∧ (True)) := ⟨trivial, ⟨trivial, trivial⟩⟩
          refine TS.reg [] ?_ ?_
          · apply prop_of ?_ hq
            kernel_rfl
          refine XS.reAny [0, 1] (mkMask 31 [1, 2, 14, 15]) ((IntKind.wrap .i64 (x + (1 : Int))), (m0.set x.toNat ((259 : Int), y_5))) h ?_
          kernel_rfl
        · refine TS.cond ((h_Ports.getD x.toNat ((0 : Int), (0 : Int))).1 == (273 : Int)) ?_ (fun e => by rw [c8] at e; cases e) (fun e => ?_)
          · kernel_rfl
          refine TS.skip ?_
          refine XS.blockEnd ?_
          refine XS.then ?_
          have hq : (True) ∧ ((True) ∧ (True)) := ⟨trivial, ⟨trivial, trivial⟩⟩
          refine TS.reg [] ?_ ?_
          · apply prop_of ?_ hq
            kernel_rfl
          refine XS.reAny [0, 1] (mkMask 31 [1, 2, 14, 15]) ((IntKind.wrap .i64 (x + (1 : Int))), m0) h ?_
          kernel_rfl
      · refine TS.cond (decide (x < (16 : Int))) ?_ (fun e => by rw [c5] at e; cases e) (fun e => ?_)
        · kernel_rfl
        refine TS.exit ?_
        refine XS.passE ?_
        refine XS.passE ?_
        refine XS.out ?_
        refine XS.then ?_
        refine TS.seq ?_
        have hq : (True) ∧ ((True) ∧ ((True) ∧ (True))) := ⟨trivial, ⟨trivial, ⟨trivial, trivial⟩⟩⟩
        refine TS.reg [] ?_ ?_
        · apply prop_of ?_ hq
          kernel_rfl
        refine XS.then ?_
        refine TS.ret ?_
        obtain rfl : (h_Count, m0, (0 : Int)) = r := Option.some.inj h
        exact XS.fin [] ((True) ∧ ((True) ∧ (True))) (by kernel_rfl) ⟨trivial, ⟨trivial, trivial⟩⟩

/-! plugtree/pluglaw.HubPlugs -/
def F12 (n : Nat) (h_Count : Int) (h_Ports : List (Int × Int)) (port : Int) (there : Bool) : Option Bool := ((F41 n h_Count h_Ports port there).bind fun y_2 => ((F42 n h_Count h_Ports port there).bind fun y_3 => ((F43 n h_Count h_Ports).bind fun y_4 => ((F44 n h_Count h_Ports).bind fun y_5 => ((F45 n h_Count h_Ports).bind fun y_6 => ((F46 n h_Count h_Ports).bind fun y_7 => (bif (y_6 == y_7) then (bif (Sh.beq (.st (.pair (.int .i64) (.arr 16 (.st (.pair (.int .i64) (.int .i64)))))) (y_2.1, y_2.2.1) (y_3.1, y_3.2.1)) then (bif (y_2.2.2 == y_3.2.2) then (bif (Sh.beq (.st (.pair (.int .i64) (.arr 16 (.st (.pair (.int .i64) (.int .i64)))))) (y_4.1, y_4.2.1) (y_5.1, y_5.2.1)) then (some (y_4.2.2 == y_5.2.2)) else (some false)) else (some false)) else (some false)) else (some false))))))))
theorem F12_ok (n : Nat) (h_Count : Int) (h_Ports : List (Int × Int)) (port : Int) (there : Bool) (r : Bool) (h : F12 n h_Count h_Ports port there = some r) : PureC Try.prog 12 [(.st (.cons (.int .i64 h_Count) (.arr 16 (.st (.pair (.int .i64) (.int .i64))) h_Ports))), (.int .i64 port), (.bool there)] (.bool r) [] := by
  refine PureC.mkS Try.func12 rfl rfl ?_
  intro w0 fz0 hfz
  replace h : ((F41 n h_Count h_Ports port there).bind fun y_2 => ((F42 n h_Count h_Ports port there).bind fun y_3 => ((F43 n h_Count h_Ports).bind fun y_4 => ((F44 n h_Count h_Ports).bind fun y_5 => ((F45 n h_Count h_Ports).bind fun y_6 => ((F46 n h_Count h_Ports).bind fun y_7 => (bif (y_6 == y_7) then (bif (Sh.beq (.st (.pair (.int .i64) (.arr 16 (.st (.pair (.int .i64) (.int .i64)))))) (y_2.1, y_2.2.1) (y_3.1, y_3.2.1)) then (bif (y_2.2.2 == y_3.2.2) then (bif (Sh.beq (.st (.pair (.int .i64) (.arr 16 (.st (.pair (.int .i64) (.int .i64)))))) (y_4.1, y_4.2.1) (y_5.1, y_5.2.1)) then (some (y_4.2.2 == y_5.2.2)) else (some false)) else (some false)) else (some false)) else (some false)))))))) = some r := h
  refine TS.seq ?_
  have hq : (True) ∧ ((True) ∧ (True)) := ⟨trivial, ⟨trivial, trivial⟩⟩
  refine TS.reg [] ?_ ?_
  · apply prop_of ?_ hq
    kernel_rfl
  refine XS.then ?_
  refine TS.seq ?_
  obtain ⟨y_2, hx1, h⟩ := bind_some' h
  have hq : (True) ∧ ((True) ∧ ((True) ∧ ((PureC Try.prog 41 [(.st (.cons (.int .i64 h_Count) (.arr 16 (.st (.pair (.int .i64) (.int .i64))) h_Ports))), (.int .i64 port), (.bool there)] (.tup (.cons (.st (.cons (.int .i64 y_2.1) (.arr 16 (.st (.pair (.int .i64) (.int .i64))) y_2.2.1))) (.cons (.int .i64 y_2.2.2) .nil))) []) ∧ ((True) ∧ ((True) ∧ ((True) ∧ ((True) ∧ ((True) ∧ ((True) ∧ (True)))))))))) := ⟨trivial, ⟨trivial, ⟨trivial, ⟨F41_ok n h_Count h_Ports port there y_2 hx1, ⟨trivial, ⟨trivial, ⟨trivial, ⟨trivial, ⟨trivial, ⟨trivial, trivial⟩⟩⟩⟩⟩⟩⟩⟩⟩⟩
  refine TS.reg [.none, .none, .none, (.call (.tup (.cons (.st (.cons (.int .i64 y_2.1) (.arr 16 (.st (.pair (.int .i64) (.int .i64))) y_2.2.1))) (.cons (.int .i64 y_2.2.2) .nil))) [])] ?_ ?_
  · apply prop_of ?_ hq
    kernel_rfl
  refine XS.then ?_
  refine TS.seq ?_
  obtain ⟨y_3, hx2, h⟩ := bind_some' h
  have hq : (True) ∧ ((True) ∧ ((True) ∧ ((PureC Try.prog 42 [(.st (.cons (.int .i64 h_Count) (.arr 16 (.st (.pair (.int .i64) (.int .i64))) h_Ports))), (.int .i64 port), (.bool there)] (.tup (.cons (.st (.cons (.int .i64 y_3.1) (.arr 16 (.st (.pair (.int .i64) (.int .i64))) y_3.2.1))) (.cons (.int .i64 y_3.2.2) .nil))) []) ∧ ((True) ∧ ((True) ∧ ((True) ∧ ((True) ∧ ((True) ∧ ((True) ∧ (True)))))))))) := ⟨trivial, ⟨trivial, ⟨trivial, ⟨F42_ok n h_Count h_Ports port there y_3 hx2, ⟨trivial, ⟨trivial, ⟨trivial, ⟨trivial, ⟨trivial, ⟨trivial, trivial⟩⟩⟩⟩⟩⟩⟩⟩⟩⟩
  refine TS.reg [.none, .none, .none, (.call (.tup (.cons (.st (.cons (.int .i64 y_3.1) (.arr 16 (.st (.pair (.int .i64) (.int .i64))) y_3.2.1))) (.cons (.int .i64 y_3.2.2) .nil))) [])] ?_ ?_
  · apply prop_of ?_ hq
    kernel_rfl
  refine XS.then ?_
  refine TS.seq ?_
  obtain ⟨y_4, hx3, h⟩ := bind_some' h
  have hq : (True) ∧ ((PureC Try.prog 43 [(.st (.cons (.int .i64 h_Count) (.arr 16 (.st (.pair (.int .i64) (.int .i64))) h_Ports)))] (.tup (.cons (.st (.cons (.int .i64 y_4.1) (.arr 16 (.st (.pair (.int .i64) (.int .i64))) y_4.2.1))) (.cons (.int .i64 y_4.2.2) .nil))) []) ∧ ((True) ∧ ((True) ∧ ((True) ∧ ((True) ∧ ((True) ∧ ((True) ∧ (True)))))))) := ⟨trivial, ⟨F43_ok n h_Count h_Ports y_4 hx3, ⟨trivial, ⟨trivial, ⟨trivial, ⟨trivial, ⟨trivial, ⟨trivial, trivial⟩⟩⟩⟩⟩⟩⟩⟩
  refine TS.reg [.none, (.call (.tup (.cons (.st (.cons (.int .i64 y_4.1) (.arr 16 (.st (.pair (.int .i64) (.int .i64))) y_4.2.1))) (.cons (.int .i64 y_4.2.2) .nil))) [])] ?_ ?_
  · apply prop_of ?_ hq
    kernel_rfl
  refine XS.then ?_
  refine TS.seq ?_
  obtain ⟨y_5, hx4, h⟩ := bind_some' h
  have hq : (True) ∧ ((PureC Try.prog 44 [(.st (.cons (.int .i64 h_Count) (.arr 16 (.st (.pair (.int .i64) (.int .i64))) h_Ports)))] (.tup (.cons (.st (.cons (.int .i64 y_5.1) (.arr 16 (.st (.pair (.int .i64) (.int .i64))) y_5.2.1))) (.cons (.int .i64 y_5.2.2) .nil))) []) ∧ ((True) ∧ ((True) ∧ ((True) ∧ ((True) ∧ ((True) ∧ ((True) ∧ (True)))))))) := ⟨trivial, ⟨F44_ok n h_Count h_Ports y_5 hx4, ⟨trivial, ⟨trivial, ⟨trivial, ⟨trivial, ⟨trivial, ⟨trivial, trivial⟩⟩⟩⟩⟩⟩⟩⟩
  refine TS.reg [.none, (.call (.tup (.cons (.st (.cons (.int .i64 y_5.1) (.arr 16 (.st (.pair (.int .i64) (.int .i64))) y_5.2.1))) (.cons (.int .i64 y_5.2.2) .nil))) [])] ?_ ?_
  · apply prop_of ?_ hq
    kernel_rfl
  refine XS.then ?_
  refine TS.seq ?_
  obtain ⟨y_6, hx5, h⟩ := bind_some' h
  obtain ⟨y_7, hx6, h⟩ := bind_some' h
  rcases bif_some h with ⟨c7, h⟩ | ⟨c8, h⟩
  · rcases bif_some h with ⟨c9, h⟩ | ⟨c10, h⟩
    · rcases bif_some h with ⟨c11, h⟩ | ⟨c12, h⟩
      · rcases bif_some h with ⟨c13, h⟩ | ⟨c14, h⟩
        · have hq : ((True) ∧ ((PureC Try.prog 45 [(.st (.cons (.int .i64 h_Count) (.arr 16 (.st (.pair (.int .i64) (.int .i64))) h_Ports)))] (.int .i64 y_6) []) ∧ ((True) ∧ ((PureC Try.prog 46 [(.st (.cons (.int .i64 h_Count) (.arr 16 (.st (.pair (.int .i64) (.int .i64))) h_Ports)))] (.int .i64 y_7) []) ∧ ((True) ∧ (((True) ∧ (y_6 == y_7) = true) ∧ ((True) ∧ ((True) ∧ ((True) ∧ ((True) ∧ (((True) ∧ (Sh.beq (.st (.pair (.int .i64) (.arr 16 (.st (.pair (.int .i64) (.int .i64)))))) (y_2.1, y_2.2.1) (y_3.1, y_3.2.1)) = true) ∧ ((True) ∧ ((True) ∧ ((True) ∧ ((True) ∧ (((True) ∧ (y_2.2.2 == y_3.2.2) = true) ∧ ((True) ∧ ((True) ∧ ((True) ∧ ((True) ∧ (((True) ∧ (Sh.beq (.st (.pair (.int .i64) (.arr 16 (.st (.pair (.int .i64) (.int .i64)))))) (y_4.1, y_4.2.1) (y_5.1, y_5.2.1)) = true) ∧ ((True) ∧ ((True) ∧ ((True) ∧ ((True) ∧ (True)))))))))))))))))))))))))) ∧ ((True) ∧ (True)) := ⟨⟨trivial, ⟨F45_ok n h_Count h_Ports y_6 hx5, ⟨trivial, ⟨F46_ok n h_Count h_Ports y_7 hx6, ⟨trivial, ⟨⟨trivial, c7⟩, ⟨trivial, ⟨trivial, ⟨trivial, ⟨trivial, ⟨⟨trivial, c9⟩, ⟨trivial, ⟨trivial, ⟨trivial, ⟨trivial, ⟨⟨trivial, c11⟩, ⟨trivial, ⟨trivial, ⟨trivial, ⟨trivial, ⟨⟨trivial, c13⟩, ⟨trivial, ⟨trivial, ⟨trivial, ⟨trivial, trivial⟩⟩⟩⟩⟩⟩⟩⟩⟩⟩⟩⟩⟩⟩⟩⟩⟩⟩⟩⟩⟩⟩⟩⟩⟩, ⟨trivial, trivial⟩⟩
          refine TS.draw 25 [] [.none, (.call (.int .i64 y_6) []), .none, (.call (.int .i64 y_7) []), .none, .dec true, .none, .none, .none, .none, .dec true, .none, .none, .none, .none, .dec true, .none, .none, .none, .none, .dec true] (by kernel_rfl) ?_ ?_
          · apply prop_of ?_ hq
            kernel_rfl
          refine XS.then ?_
          refine TS.ret ?_
          obtain rfl : (y_4.2.2 == y_5.2.2) = r := Option.some.inj h
          exact XS.fin [] ((True) ∧ (True)) (by kernel_rfl) ⟨trivial, trivial⟩
        · have hq : ((True) ∧ ((PureC Try.prog 45 [(.st (.cons (.int .i64 h_Count) (.arr 16 (.st (.pair (.int .i64) (.int .i64))) h_Ports)))] (.int .i64 y_6) []) ∧ ((True) ∧ ((PureC Try.prog 46 [(.st (.cons (.int .i64 h_Count) (.arr 16 (.st (.pair (.int .i64) (.int .i64))) h_Ports)))] (.int .i64 y_7) []) ∧ ((True) ∧ (((True) ∧ (y_6 == y_7) = true) ∧ ((True) ∧ ((True) ∧ ((True) ∧ ((True) ∧ (((True) ∧ (Sh.beq (.st (.pair (.int .i64) (.arr 16 (.st (.pair (.int .i64) (.int .i64)))))) (y_2.1, y_2.2.1) (y_3.1, y_3.2.1)) = true) ∧ ((True) ∧ ((True) ∧ ((True) ∧ ((True) ∧ (((True) ∧ (y_2.2.2 == y_3.2.2) = true) ∧ ((True) ∧ ((True) ∧ ((True) ∧ ((True) ∧ (((True) ∧ (Sh.beq (.st (.pair (.int .i64) (.arr 16 (.st (.pair (.int .i64) (.int .i64)))))) (y_4.1, y_4.2.1) (y_5.1, y_5.2.1)) = false) ∧ ((True) ∧ (True))))))))))))))))))))))) ∧ ((True) ∧ (True)) := ⟨⟨trivial, ⟨F45_ok n h_Count h_Ports y_6 hx5, ⟨trivial, ⟨F46_ok n h_Count h_Ports y_7 hx6, ⟨trivial, ⟨⟨trivial, c7⟩, ⟨trivial, ⟨trivial, ⟨trivial, ⟨trivial, ⟨⟨trivial, c9⟩, ⟨trivial, ⟨trivial, ⟨trivial, ⟨trivial, ⟨⟨trivial, c11⟩, ⟨trivial, ⟨trivial, ⟨trivial, ⟨trivial, ⟨⟨trivial, c14⟩, ⟨trivial, trivial⟩⟩⟩⟩⟩⟩⟩⟩⟩⟩⟩⟩⟩⟩⟩⟩⟩⟩⟩⟩⟩⟩, ⟨trivial, trivial⟩⟩
          refine TS.draw 25 [] [.none, (.call (.int .i64 y_6) []), .none, (.call (.int .i64 y_7) []), .none, .dec true, .none, .none, .none, .none, .dec true, .none, .none, .none, .none, .dec true, .none, .none, .none, .none, .dec false] (by kernel_rfl) ?_ ?_
          · apply prop_of ?_ hq
            kernel_rfl
          refine XS.then ?_
          refine TS.ret ?_
          obtain rfl : false = r := Option.some.inj h
          exact XS.fin [] ((True) ∧ (True)) (by kernel_rfl) ⟨trivial, trivial⟩
      · have hq : ((True) ∧ ((PureC Try.prog 45 [(.st (.cons (.int .i64 h_Count) (.arr 16 (.st (.pair (.int .i64) (.int .i64))) h_Ports)))] (.int .i64 y_6) []) ∧ ((True) ∧ ((PureC Try.prog 46 [(.st (.cons (.int .i64 h_Count) (.arr 16 (.st (.pair (.int .i64) (.int .i64))) h_Ports)))] (.int .i64 y_7) []) ∧ ((True) ∧ (((True) ∧ (y_6 == y_7) = true) ∧ ((True) ∧ ((True) ∧ ((True) ∧ ((True) ∧ (((True) ∧ (Sh.beq (.st (.pair (.int .i64) (.arr 16 (.st (.pair (.int .i64) (.int .i64)))))) (y_2.1, y_2.2.1) (y_3.1, y_3.2.1)) = true) ∧ ((True) ∧ ((True) ∧ ((True) ∧ ((True) ∧ (((True) ∧ (y_2.2.2 == y_3.2.2) = false) ∧ ((True) ∧ ((True) ∧ ((True) ∧ (True)))))))))))))))))))) ∧ ((True) ∧ (True)) := ⟨⟨trivial, ⟨F45_ok n h_Count h_Ports y_6 hx5, ⟨trivial, ⟨F46_ok n h_Count h_Ports y_7 hx6, ⟨trivial, ⟨⟨trivial, c7⟩, ⟨trivial, ⟨trivial, ⟨trivial, ⟨trivial, ⟨⟨trivial, c9⟩, ⟨trivial, ⟨trivial, ⟨trivial, ⟨trivial, ⟨⟨trivial, c12⟩, ⟨trivial, ⟨trivial, ⟨trivial, trivial⟩⟩⟩⟩⟩⟩⟩⟩⟩⟩⟩⟩⟩⟩⟩⟩⟩⟩⟩, ⟨trivial, trivial⟩⟩
        refine TS.draw 25 [] [.none, (.call (.int .i64 y_6) []), .none, (.call (.int .i64 y_7) []), .none, .dec true, .none, .none, .none, .none, .dec true, .none, .none, .none, .none, .dec false] (by kernel_rfl) ?_ ?_
        · apply prop_of ?_ hq
          kernel_rfl
        refine XS.then ?_
        refine TS.ret ?_
        obtain rfl : false = r := Option.some.inj h
        exact XS.fin [] ((True) ∧ (True)) (by kernel_rfl) ⟨trivial, trivial⟩
    · have hq : ((True) ∧ ((PureC Try.prog 45 [(.st (.cons (.int .i64 h_Count) (.arr 16 (.st (.pair (.int .i64) (.int .i64))) h_Ports)))] (.int .i64 y_6) []) ∧ ((True) ∧ ((PureC Try.prog 46 [(.st (.cons (.int .i64 h_Count) (.arr 16 (.st (.pair (.int .i64) (.int .i64))) h_Ports)))] (.int .i64 y_7) []) ∧ ((True) ∧ (((True) ∧ (y_6 == y_7) = true) ∧ ((True) ∧ ((True) ∧ ((True) ∧ ((True) ∧ (((True) ∧ (Sh.beq (.st (.pair (.int .i64) (.arr 16 (.st (.pair (.int .i64) (.int .i64)))))) (y_2.1, y_2.2.1) (y_3.1, y_3.2.1)) = false) ∧ ((True) ∧ ((True) ∧ ((True) ∧ ((True) ∧ ((True) ∧ (True))))))))))))))))) ∧ ((True) ∧ (True)) := ⟨⟨trivial, ⟨F45_ok n h_Count h_Ports y_6 hx5, ⟨trivial, ⟨F46_ok n h_Count h_Ports y_7 hx6, ⟨trivial, ⟨⟨trivial, c7⟩, ⟨trivial, ⟨trivial, ⟨trivial, ⟨trivial, ⟨⟨trivial, c10⟩, ⟨trivial, ⟨trivial, ⟨trivial, ⟨trivial, ⟨trivial, trivial⟩⟩⟩⟩⟩⟩⟩⟩⟩⟩⟩⟩⟩⟩⟩⟩, ⟨trivial, trivial⟩⟩
      refine TS.draw 25 [] [.none, (.call (.int .i64 y_6) []), .none, (.call (.int .i64 y_7) []), .none, .dec true, .none, .none, .none, .none, .dec false] (by kernel_rfl) ?_ ?_
      · apply prop_of ?_ hq
        kernel_rfl
      refine XS.then ?_
      refine TS.ret ?_
      obtain rfl : false = r := Option.some.inj h
      exact XS.fin [] ((True) ∧ (True)) (by kernel_rfl) ⟨trivial, trivial⟩
  · have hq : ((True) ∧ ((PureC Try.prog 45 [(.st (.cons (.int .i64 h_Count) (.arr 16 (.st (.pair (.int .i64) (.int .i64))) h_Ports)))] (.int .i64 y_6) []) ∧ ((True) ∧ ((PureC Try.prog 46 [(.st (.cons (.int .i64 h_Count) (.arr 16 (.st (.pair (.int .i64) (.int .i64))) h_Ports)))] (.int .i64 y_7) []) ∧ ((True) ∧ (((True) ∧ (y_6 == y_7) = false) ∧ ((True) ∧ ((True) ∧ ((True) ∧ ((True) ∧ ((True) ∧ ((True) ∧ ((True) ∧ (True)))))))))))))) ∧ ((True) ∧ (True)) := ⟨⟨trivial, ⟨F45_ok n h_Count h_Ports y_6 hx5, ⟨trivial, ⟨F46_ok n h_Count h_Ports y_7 hx6, ⟨trivial, ⟨⟨trivial, c8⟩, ⟨trivial, ⟨trivial, ⟨trivial, ⟨trivial, ⟨trivial, ⟨trivial, ⟨trivial, trivial⟩⟩⟩⟩⟩⟩⟩⟩⟩⟩⟩⟩⟩, ⟨trivial, trivial⟩⟩
    refine TS.draw 25 [] [.none, (.call (.int .i64 y_6) []), .none, (.call (.int .i64 y_7) []), .none, .dec false] (by kernel_rfl) ?_ ?_
    · apply prop_of ?_ hq
      kernel_rfl
    refine XS.then ?_
    refine TS.ret ?_
    obtain rfl : false = r := Option.some.inj h
    exact XS.fin [] ((True) ∧ (True)) (by kernel_rfl) ⟨trivial, trivial⟩
end Go.Proofs.Ytbeilpecdimheaa
