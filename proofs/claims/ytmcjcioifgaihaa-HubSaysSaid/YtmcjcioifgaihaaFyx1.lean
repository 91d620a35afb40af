/- Functions of the program, as functions of values. -/
import Derived.Test.YtmcjcioifgaihaaAm27
import Derived.Test.YtmcjcioifgaihaaChecked
namespace Go.Proofs.Ytmcjcioifgaihaa
open Go Go.RowKit
set_option linter.unusedVariables false
set_option maxRecDepth 100000

/-! plugtree/hub.port$1 -/
def F176 (n : Nat) (bit : Int) (x : Int) : Option Bool := (some ((bitsI .and .i64 x bit) != (0 : Int)))
theorem F176_ok (n : Nat) (bit : Int) (x : Int) (r : Bool) (h : F176 n bit x = some r) : PureC Try.prog 176 [(.int .i64 bit), (.pv (.int .i64 x))] (.bool r) [] := by
  refine PureC.mkS Try.func176 rfl rfl ?_
  intro w0 fz0 hfz
  replace h : (some ((bitsI .and .i64 x bit) != (0 : Int))) = some r := h
  refine TS.seq ?_
  have hq : (True) ∧ (True) := ⟨trivial, trivial⟩
  refine TS.reg [] ?_ ?_
  · apply prop_of ?_ hq
    kernel_rfl
  refine XS.then ?_
  refine TS.seq ?_
  have hq : (True) ∧ ((True) ∧ ((True) ∧ ((True) ∧ ((True) ∧ (True))))) := ⟨trivial, ⟨trivial, ⟨trivial, ⟨trivial, ⟨trivial, trivial⟩⟩⟩⟩⟩
  refine TS.reg [] ?_ ?_
  · apply prop_of ?_ hq
    kernel_rfl
  refine XS.then ?_
  refine TS.ret ?_
  obtain rfl : ((bitsI .and .i64 x bit) != (0 : Int)) = r := Option.some.inj h
  exact XS.fin [] ((True) ∧ (True)) (by kernel_rfl) ⟨trivial, trivial⟩

/-! plugtree/hub.port -/
def F151_j2 (n : Nat) (p_Status : Int) : Bool → Option Bool
  | x => (bif x then (some false) else ((F176 n (1 : Int) p_Status).bind fun y_2 => (bif y_2 then ((F176 n (256 : Int) p_Status).bind fun y_3 => (bif (!y_3) then (some false) else ((F176 n (18 : Int) p_Status).bind fun y_4 => (bif y_4 then (bif (!y_2) then (some false) else ((F176 n (2 : Int) p_Status).bind fun y_5 => (bif (!y_5) then (some true) else ((F176 n (16 : Int) p_Status).bind fun y_6 => (some (!y_6)))))) else ((F176 n (2 : Int) p_Status).bind fun y_7 => (bif (!y_7) then (some true) else ((F176 n (16 : Int) p_Status).bind fun y_8 => (some (!y_8))))))))) else ((F176 n (18 : Int) p_Status).bind fun y_9 => (bif y_9 then (bif (!y_2) then (some false) else ((F176 n (2 : Int) p_Status).bind fun y_10 => (bif (!y_10) then (some true) else ((F176 n (16 : Int) p_Status).bind fun y_11 => (some (!y_11)))))) else ((F176 n (2 : Int) p_Status).bind fun y_12 => (bif (!y_12) then (some true) else ((F176 n (16 : Int) p_Status).bind fun y_13 => (some (!y_13))))))))))
def F151 (n : Nat) (p_Status : Int) (p_Change : Int) : Option Bool := (bif (decide (p_Status < (0 : Int))) then (F151_j2 n p_Status true) else (bif ((bitsI .andNot .i64 p_Status (275 : Int)) != (0 : Int)) then (F151_j2 n p_Status true) else (bif (decide (p_Change < (0 : Int))) then (F151_j2 n p_Status true) else (F151_j2 n p_Status ((bitsI .andNot .i64 p_Change (19 : Int)) != (0 : Int))))))
theorem F151_ok (n : Nat) (p_Status : Int) (p_Change : Int) (r : Bool) (h : F151 n p_Status p_Change = some r) : PureC Try.prog 151 [(.st (.cons (.int .i64 p_Status) (.int .i64 p_Change)))] (.bool r) [] := by
  refine PureC.mkS Try.func151 rfl rfl ?_
  intro w0 fz0 hfz
  replace h : (bif (decide (p_Status < (0 : Int))) then (F151_j2 n p_Status true) else (bif ((bitsI .andNot .i64 p_Status (275 : Int)) != (0 : Int)) then (F151_j2 n p_Status true) else (bif (decide (p_Change < (0 : Int))) then (F151_j2 n p_Status true) else (F151_j2 n p_Status ((bitsI .andNot .i64 p_Change (19 : Int)) != (0 : Int)))))) = some r := h
  refine TS.seq ?_
  have hq : (True) ∧ ((True) ∧ (True)) := ⟨trivial, ⟨trivial, trivial⟩⟩
  refine TS.reg [] ?_ ?_
  · apply prop_of ?_ hq
    kernel_rfl
  refine XS.then ?_
  refine TS.seq ?_
  have hq : (True) ∧ ((True) ∧ ((True) ∧ ((True) ∧ (True)))) := ⟨trivial, ⟨trivial, ⟨trivial, ⟨trivial, trivial⟩⟩⟩⟩
  refine TS.reg [] ?_ ?_
  · apply prop_of ?_ hq
    kernel_rfl
  refine XS.then ?_
  refine TS.seq ?_
  have hq : (True) ∧ ((True) ∧ (True)) := ⟨trivial, ⟨trivial, trivial⟩⟩
  refine TS.reg [] ?_ ?_
  · apply prop_of ?_ hq
    kernel_rfl
  refine XS.then ?_
  refine TS.seq ?_
  refine TS.block ?_
  refine TS.seq ?_
  refine TS.cut (D := Bool) (fun d => match d with | x => (mkTs 52 [(4, (.fn 176 (.cons (.ptr 0 []) .nil))), (8, (.bool x))], [(.box 3 (.int .i64 p_Status))])) (fun d => F151_j2 n p_Status d = some r) ?_ ?_
  · rintro x h
    replace h : (bif x then (some false) else ((F176 n (1 : Int) p_Status).bind fun y_2 => (bif y_2 then ((F176 n (256 : Int) p_Status).bind fun y_3 => (bif (!y_3) then (some false) else ((F176 n (18 : Int) p_Status).bind fun y_4 => (bif y_4 then (bif (!y_2) then (some false) else ((F176 n (2 : Int) p_Status).bind fun y_5 => (bif (!y_5) then (some true) else ((F176 n (16 : Int) p_Status).bind fun y_6 => (some (!y_6)))))) else ((F176 n (2 : Int) p_Status).bind fun y_7 => (bif (!y_7) then (some true) else ((F176 n (16 : Int) p_Status).bind fun y_8 => (some (!y_8))))))))) else ((F176 n (18 : Int) p_Status).bind fun y_9 => (bif y_9 then (bif (!y_2) then (some false) else ((F176 n (2 : Int) p_Status).bind fun y_10 => (bif (!y_10) then (some true) else ((F176 n (16 : Int) p_Status).bind fun y_11 => (some (!y_11)))))) else ((F176 n (2 : Int) p_Status).bind fun y_12 => (bif (!y_12) then (some true) else ((F176 n (16 : Int) p_Status).bind fun y_13 => (some (!y_13)))))))))) = some r := h
    refine XS.then ?_
    rcases bif_some h with ⟨c1, h⟩ | ⟨c2, h⟩
    · refine TS.cond x ?_ (fun hcz => ?_) (fun hcz => by rw [c1] at hcz; cases hcz)
      · kernel_rfl
      refine TS.seq ?_
      have hq : (True) ∧ (True) := ⟨trivial, trivial⟩
      refine TS.reg [] ?_ ?_
      · apply prop_of ?_ hq
        kernel_rfl
      refine XS.then ?_
      refine TS.ret ?_
      refine XS.blockRet ?_
      refine XS.passR ?_
      obtain rfl : false = r := Option.some.inj h
      exact XS.fin [] ((True) ∧ (True)) (by kernel_rfl) ⟨trivial, trivial⟩
    · refine TS.cond x ?_ (fun hcz => by rw [c2] at hcz; cases hcz) (fun hcz => ?_)
      · kernel_rfl
      refine TS.seq ?_
      obtain ⟨y_2, hx3, h⟩ := bind_some' h
      rcases bif_some h with ⟨c4, h⟩ | ⟨c5, h⟩
      · obtain ⟨y_3, hx6, h⟩ := bind_some' h
        rcases bif_some h with ⟨c7, h⟩ | ⟨c8, h⟩
        · have hq : (True) ∧ ((((True) ∧ ((True) ∧ (True))) ∧ PureC Try.prog 176 [(.int .i64 (1 : Int)), (.pv (.int .i64 p_Status))] (.bool y_2) []) ∧ (((True) ∧ y_2 = true) ∧ ((True) ∧ ((((True) ∧ ((True) ∧ (True))) ∧ PureC Try.prog 176 [(.int .i64 (256 : Int)), (.pv (.int .i64 p_Status))] (.bool y_3) []) ∧ ((True) ∧ ((True) ∧ (((True) ∧ (!y_3) = true) ∧ ((True) ∧ ((True) ∧ (True)))))))))) := ⟨trivial, ⟨⟨⟨trivial, ⟨trivial, trivial⟩⟩, F176_ok n (1 : Int) p_Status y_2 hx3⟩, ⟨⟨trivial, c4⟩, ⟨trivial, ⟨⟨⟨trivial, ⟨trivial, trivial⟩⟩, F176_ok n (256 : Int) p_Status y_3 hx6⟩, ⟨trivial, ⟨trivial, ⟨⟨trivial, c7⟩, ⟨trivial, ⟨trivial, trivial⟩⟩⟩⟩⟩⟩⟩⟩⟩⟩
          refine TS.reg [.none, (.call (.bool y_2) []), .dec true, .none, (.call (.bool y_3) []), .none, .none, .dec true] ?_ ?_
          · apply prop_of ?_ hq
            kernel_rfl
          refine XS.then ?_
          refine TS.yes ?_ ?_
          · kernel_rfl
          refine TS.seq ?_
          have hq : (True) ∧ (True) := ⟨trivial, trivial⟩
          refine TS.reg [] ?_ ?_
          · apply prop_of ?_ hq
            kernel_rfl
          refine XS.then ?_
          refine TS.ret ?_
          refine XS.blockRet ?_
          refine XS.passR ?_
          obtain rfl : false = r := Option.some.inj h
          exact XS.fin [] ((True) ∧ (True)) (by kernel_rfl) ⟨trivial, trivial⟩
        · obtain ⟨y_4, hx9, h⟩ := bind_some' h
          rcases bif_some h with ⟨c10, h⟩ | ⟨c11, h⟩
          · have hq : (True) ∧ ((((True) ∧ ((True) ∧ (True))) ∧ PureC Try.prog 176 [(.int .i64 (1 : Int)), (.pv (.int .i64 p_Status))] (.bool y_2) []) ∧ (((True) ∧ y_2 = true) ∧ ((True) ∧ ((((True) ∧ ((True) ∧ (True))) ∧ PureC Try.prog 176 [(.int .i64 (256 : Int)), (.pv (.int .i64 p_Status))] (.bool y_3) []) ∧ ((True) ∧ ((True) ∧ (((True) ∧ (!y_3) = false) ∧ ((True) ∧ ((((True) ∧ ((True) ∧ (True))) ∧ PureC Try.prog 176 [(.int .i64 (18 : Int)), (.pv (.int .i64 p_Status))] (.bool y_4) []) ∧ (((True) ∧ y_4 = true) ∧ ((True) ∧ ((((True) ∧ ((True) ∧ (True))) ∧ PureC Try.prog 176 [(.int .i64 (1 : Int)), (.pv (.int .i64 p_Status))] (.bool y_2) []) ∧ ((True) ∧ ((True) ∧ ((True) ∧ ((True) ∧ (True))))))))))))))))) := ⟨trivial, ⟨⟨⟨trivial, ⟨trivial, trivial⟩⟩, F176_ok n (1 : Int) p_Status y_2 hx3⟩, ⟨⟨trivial, c4⟩, ⟨trivial, ⟨⟨⟨trivial, ⟨trivial, trivial⟩⟩, F176_ok n (256 : Int) p_Status y_3 hx6⟩, ⟨trivial, ⟨trivial, ⟨⟨trivial, c8⟩, ⟨trivial, ⟨⟨⟨trivial, ⟨trivial, trivial⟩⟩, F176_ok n (18 : Int) p_Status y_4 hx9⟩, ⟨⟨trivial, c10⟩, ⟨trivial, ⟨⟨⟨trivial, ⟨trivial, trivial⟩⟩, F176_ok n (1 : Int) p_Status y_2 hx3⟩, ⟨trivial, ⟨trivial, ⟨trivial, ⟨trivial, trivial⟩⟩⟩⟩⟩⟩⟩⟩⟩⟩⟩⟩⟩⟩⟩⟩⟩
            refine TS.reg [.none, (.call (.bool y_2) []), .dec true, .none, (.call (.bool y_3) []), .none, .none, .dec false, .none, (.call (.bool y_4) []), .dec true, .none, (.call (.bool y_2) [])] ?_ ?_
            · apply prop_of ?_ hq
              kernel_rfl
            refine XS.then ?_
            rcases bif_some h with ⟨c12, h⟩ | ⟨c13, h⟩
            · refine TS.cond (!y_2) ?_ (fun hcz => ?_) (fun hcz => by rw [c12] at hcz; cases hcz)
              · kernel_rfl
              refine TS.seq ?_
              have hq : (True) ∧ (True) := ⟨trivial, trivial⟩
              refine TS.reg [] ?_ ?_
              · apply prop_of ?_ hq
                kernel_rfl
              refine XS.then ?_
              refine TS.ret ?_
              refine XS.blockRet ?_
              refine XS.passR ?_
              obtain rfl : false = r := Option.some.inj h
              exact XS.fin [] ((True) ∧ (True)) (by kernel_rfl) ⟨trivial, trivial⟩
            · refine TS.cond (!y_2) ?_ (fun hcz => by rw [c13] at hcz; cases hcz) (fun hcz => ?_)
              · kernel_rfl
              refine TS.skip ?_
              refine XS.blockEnd ?_
              refine XS.then ?_
              refine TS.seq ?_
              obtain ⟨y_5, hx14, h⟩ := bind_some' h
              rcases bif_some h with ⟨c15, h⟩ | ⟨c16, h⟩
              · have hq : (True) ∧ ((((True) ∧ ((True) ∧ (True))) ∧ PureC Try.prog 176 [(.int .i64 (2 : Int)), (.pv (.int .i64 p_Status))] (.bool y_5) []) ∧ ((True) ∧ (((True) ∧ (!y_5) = true) ∧ ((True) ∧ ((True) ∧ (True)))))) := ⟨trivial, ⟨⟨⟨trivial, ⟨trivial, trivial⟩⟩, F176_ok n (2 : Int) p_Status y_5 hx14⟩, ⟨trivial, ⟨⟨trivial, c15⟩, ⟨trivial, ⟨trivial, trivial⟩⟩⟩⟩⟩⟩
                refine TS.reg [.none, (.call (.bool y_5) []), .none, .dec true] ?_ ?_
                · apply prop_of ?_ hq
                  kernel_rfl
                refine XS.then ?_
                refine TS.ret ?_
                obtain rfl : true = r := Option.some.inj h
                exact XS.fin [] ((True) ∧ (True)) (by kernel_rfl) ⟨trivial, trivial⟩
              · obtain ⟨y_6, hx17, h⟩ := bind_some' h
                have hq : (True) ∧ ((((True) ∧ ((True) ∧ (True))) ∧ PureC Try.prog 176 [(.int .i64 (2 : Int)), (.pv (.int .i64 p_Status))] (.bool y_5) []) ∧ ((True) ∧ (((True) ∧ (!y_5) = false) ∧ ((True) ∧ ((((True) ∧ ((True) ∧ (True))) ∧ PureC Try.prog 176 [(.int .i64 (16 : Int)), (.pv (.int .i64 p_Status))] (.bool y_6) []) ∧ ((True) ∧ ((True) ∧ ((True) ∧ (True))))))))) := ⟨trivial, ⟨⟨⟨trivial, ⟨trivial, trivial⟩⟩, F176_ok n (2 : Int) p_Status y_5 hx14⟩, ⟨trivial, ⟨⟨trivial, c16⟩, ⟨trivial, ⟨⟨⟨trivial, ⟨trivial, trivial⟩⟩, F176_ok n (16 : Int) p_Status y_6 hx17⟩, ⟨trivial, ⟨trivial, ⟨trivial, trivial⟩⟩⟩⟩⟩⟩⟩⟩⟩
                refine TS.reg [.none, (.call (.bool y_5) []), .none, .dec false, .none, (.call (.bool y_6) [])] ?_ ?_
                · apply prop_of ?_ hq
                  kernel_rfl
                refine XS.then ?_
                refine TS.ret ?_
                obtain rfl : (!y_6) = r := Option.some.inj h
                exact XS.fin [] ((True) ∧ (True)) (by kernel_rfl) ⟨trivial, trivial⟩
          · have hq : (True) ∧ ((((True) ∧ ((True) ∧ (True))) ∧ PureC Try.prog 176 [(.int .i64 (1 : Int)), (.pv (.int .i64 p_Status))] (.bool y_2) []) ∧ (((True) ∧ y_2 = true) ∧ ((True) ∧ ((((True) ∧ ((True) ∧ (True))) ∧ PureC Try.prog 176 [(.int .i64 (256 : Int)), (.pv (.int .i64 p_Status))] (.bool y_3) []) ∧ ((True) ∧ ((True) ∧ (((True) ∧ (!y_3) = false) ∧ ((True) ∧ ((((True) ∧ ((True) ∧ (True))) ∧ PureC Try.prog 176 [(.int .i64 (18 : Int)), (.pv (.int .i64 p_Status))] (.bool y_4) []) ∧ (((True) ∧ y_4 = false) ∧ ((True) ∧ ((True) ∧ ((True) ∧ (True)))))))))))))) := ⟨trivial, ⟨⟨⟨trivial, ⟨trivial, trivial⟩⟩, F176_ok n (1 : Int) p_Status y_2 hx3⟩, ⟨⟨trivial, c4⟩, ⟨trivial, ⟨⟨⟨trivial, ⟨trivial, trivial⟩⟩, F176_ok n (256 : Int) p_Status y_3 hx6⟩, ⟨trivial, ⟨trivial, ⟨⟨trivial, c8⟩, ⟨trivial, ⟨⟨⟨trivial, ⟨trivial, trivial⟩⟩, F176_ok n (18 : Int) p_Status y_4 hx9⟩, ⟨⟨trivial, c11⟩, ⟨trivial, ⟨trivial, ⟨trivial, trivial⟩⟩⟩⟩⟩⟩⟩⟩⟩⟩⟩⟩⟩⟩
            refine TS.reg [.none, (.call (.bool y_2) []), .dec true, .none, (.call (.bool y_3) []), .none, .none, .dec false, .none, (.call (.bool y_4) []), .dec false] ?_ ?_
            · apply prop_of ?_ hq
              kernel_rfl
            refine XS.then ?_
            refine TS.no ?_ ?_
            · kernel_rfl
            refine TS.skip ?_
            refine XS.blockEnd ?_
            refine XS.then ?_
            refine TS.seq ?_
            obtain ⟨y_7, hx18, h⟩ := bind_some' h
            rcases bif_some h with ⟨c19, h⟩ | ⟨c20, h⟩
            · have hq : (True) ∧ ((((True) ∧ ((True) ∧ (True))) ∧ PureC Try.prog 176 [(.int .i64 (2 : Int)), (.pv (.int .i64 p_Status))] (.bool y_7) []) ∧ ((True) ∧ (((True) ∧ (!y_7) = true) ∧ ((True) ∧ ((True) ∧ (True)))))) := ⟨trivial, ⟨⟨⟨trivial, ⟨trivial, trivial⟩⟩, F176_ok n (2 : Int) p_Status y_7 hx18⟩, ⟨trivial, ⟨⟨trivial, c19⟩, ⟨trivial, ⟨trivial, trivial⟩⟩⟩⟩⟩⟩
              refine TS.reg [.none, (.call (.bool y_7) []), .none, .dec true] ?_ ?_
              · apply prop_of ?_ hq
                kernel_rfl
              refine XS.then ?_
              refine TS.ret ?_
              obtain rfl : true = r := Option.some.inj h
              exact XS.fin [] ((True) ∧ (True)) (by kernel_rfl) ⟨trivial, trivial⟩
            · obtain ⟨y_8, hx21, h⟩ := bind_some' h
              have hq : (True) ∧ ((((True) ∧ ((True) ∧ (True))) ∧ PureC Try.prog 176 [(.int .i64 (2 : Int)), (.pv (.int .i64 p_Status))] (.bool y_7) []) ∧ ((True) ∧ (((True) ∧ (!y_7) = false) ∧ ((True) ∧ ((((True) ∧ ((True) ∧ (True))) ∧ PureC Try.prog 176 [(.int .i64 (16 : Int)), (.pv (.int .i64 p_Status))] (.bool y_8) []) ∧ ((True) ∧ ((True) ∧ ((True) ∧ (True))))))))) := ⟨trivial, ⟨⟨⟨trivial, ⟨trivial, trivial⟩⟩, F176_ok n (2 : Int) p_Status y_7 hx18⟩, ⟨trivial, ⟨⟨trivial, c20⟩, ⟨trivial, ⟨⟨⟨trivial, ⟨trivial, trivial⟩⟩, F176_ok n (16 : Int) p_Status y_8 hx21⟩, ⟨trivial, ⟨trivial, ⟨trivial, trivial⟩⟩⟩⟩⟩⟩⟩⟩⟩
              refine TS.reg [.none, (.call (.bool y_7) []), .none, .dec false, .none, (.call (.bool y_8) [])] ?_ ?_
              · apply prop_of ?_ hq
                kernel_rfl
              refine XS.then ?_
              refine TS.ret ?_
              obtain rfl : (!y_8) = r := Option.some.inj h
              exact XS.fin [] ((True) ∧ (True)) (by kernel_rfl) ⟨trivial, trivial⟩
      · obtain ⟨y_9, hx22, h⟩ := bind_some' h
        rcases bif_some h with ⟨c23, h⟩ | ⟨c24, h⟩
        · have hq : (True) ∧ ((((True) ∧ ((True) ∧ (True))) ∧ PureC Try.prog 176 [(.int .i64 (1 : Int)), (.pv (.int .i64 p_Status))] (.bool y_2) []) ∧ (((True) ∧ y_2 = false) ∧ ((True) ∧ ((True) ∧ ((True) ∧ ((((True) ∧ ((True) ∧ (True))) ∧ PureC Try.prog 176 [(.int .i64 (18 : Int)), (.pv (.int .i64 p_Status))] (.bool y_9) []) ∧ (((True) ∧ y_9 = true) ∧ ((True) ∧ ((((True) ∧ ((True) ∧ (True))) ∧ PureC Try.prog 176 [(.int .i64 (1 : Int)), (.pv (.int .i64 p_Status))] (.bool y_2) []) ∧ ((True) ∧ ((True) ∧ ((True) ∧ ((True) ∧ (True)))))))))))))) := ⟨trivial, ⟨⟨⟨trivial, ⟨trivial, trivial⟩⟩, F176_ok n (1 : Int) p_Status y_2 hx3⟩, ⟨⟨trivial, c5⟩, ⟨trivial, ⟨trivial, ⟨trivial, ⟨⟨⟨trivial, ⟨trivial, trivial⟩⟩, F176_ok n (18 : Int) p_Status y_9 hx22⟩, ⟨⟨trivial, c23⟩, ⟨trivial, ⟨⟨⟨trivial, ⟨trivial, trivial⟩⟩, F176_ok n (1 : Int) p_Status y_2 hx3⟩, ⟨trivial, ⟨trivial, ⟨trivial, ⟨trivial, trivial⟩⟩⟩⟩⟩⟩⟩⟩⟩⟩⟩⟩⟩⟩
          refine TS.reg [.none, (.call (.bool y_2) []), .dec false, .none, .none, .none, .none, .none, .none, (.call (.bool y_9) []), .dec true, .none, (.call (.bool y_2) [])] ?_ ?_
          · apply prop_of ?_ hq
            kernel_rfl
          refine XS.then ?_
          rcases bif_some h with ⟨c25, h⟩ | ⟨c26, h⟩
          · refine TS.cond (!y_2) ?_ (fun hcz => ?_) (fun hcz => by rw [c25] at hcz; cases hcz)
            · kernel_rfl
            refine TS.seq ?_
            have hq : (True) ∧ (True) := ⟨trivial, trivial⟩
            refine TS.reg [] ?_ ?_
            · apply prop_of ?_ hq
              kernel_rfl
            refine XS.then ?_
            refine TS.ret ?_
            refine XS.blockRet ?_
            refine XS.passR ?_
            obtain rfl : false = r := Option.some.inj h
            exact XS.fin [] ((True) ∧ (True)) (by kernel_rfl) ⟨trivial, trivial⟩
          · refine TS.cond (!y_2) ?_ (fun hcz => by rw [c26] at hcz; cases hcz) (fun hcz => ?_)
            · kernel_rfl
            refine TS.skip ?_
            refine XS.blockEnd ?_
            refine XS.then ?_
            refine TS.seq ?_
            obtain ⟨y_10, hx27, h⟩ := bind_some' h
            rcases bif_some h with ⟨c28, h⟩ | ⟨c29, h⟩
            · have hq : (True) ∧ ((((True) ∧ ((True) ∧ (True))) ∧ PureC Try.prog 176 [(.int .i64 (2 : Int)), (.pv (.int .i64 p_Status))] (.bool y_10) []) ∧ ((True) ∧ (((True) ∧ (!y_10) = true) ∧ ((True) ∧ ((True) ∧ (True)))))) := ⟨trivial, ⟨⟨⟨trivial, ⟨trivial, trivial⟩⟩, F176_ok n (2 : Int) p_Status y_10 hx27⟩, ⟨trivial, ⟨⟨trivial, c28⟩, ⟨trivial, ⟨trivial, trivial⟩⟩⟩⟩⟩⟩
              refine TS.reg [.none, (.call (.bool y_10) []), .none, .dec true] ?_ ?_
              · apply prop_of ?_ hq
                kernel_rfl
              refine XS.then ?_
              refine TS.ret ?_
              obtain rfl : true = r := Option.some.inj h
              exact XS.fin [] ((True) ∧ (True)) (by kernel_rfl) ⟨trivial, trivial⟩
            · obtain ⟨y_11, hx30, h⟩ := bind_some' h
              have hq : (True) ∧ ((((True) ∧ ((True) ∧ (True))) ∧ PureC Try.prog 176 [(.int .i64 (2 : Int)), (.pv (.int .i64 p_Status))] (.bool y_10) []) ∧ ((True) ∧ (((True) ∧ (!y_10) = false) ∧ ((True) ∧ ((((True) ∧ ((True) ∧ (True))) ∧ PureC Try.prog 176 [(.int .i64 (16 : Int)), (.pv (.int .i64 p_Status))] (.bool y_11) []) ∧ ((True) ∧ ((True) ∧ ((True) ∧ (True))))))))) := ⟨trivial, ⟨⟨⟨trivial, ⟨trivial, trivial⟩⟩, F176_ok n (2 : Int) p_Status y_10 hx27⟩, ⟨trivial, ⟨⟨trivial, c29⟩, ⟨trivial, ⟨⟨⟨trivial, ⟨trivial, trivial⟩⟩, F176_ok n (16 : Int) p_Status y_11 hx30⟩, ⟨trivial, ⟨trivial, ⟨trivial, trivial⟩⟩⟩⟩⟩⟩⟩⟩⟩
              refine TS.reg [.none, (.call (.bool y_10) []), .none, .dec false, .none, (.call (.bool y_11) [])] ?_ ?_
              · apply prop_of ?_ hq
                kernel_rfl
              refine XS.then ?_
              refine TS.ret ?_
              obtain rfl : (!y_11) = r := Option.some.inj h
              exact XS.fin [] ((True) ∧ (True)) (by kernel_rfl) ⟨trivial, trivial⟩
        · have hq : (True) ∧ ((((True) ∧ ((True) ∧ (True))) ∧ PureC Try.prog 176 [(.int .i64 (1 : Int)), (.pv (.int .i64 p_Status))] (.bool y_2) []) ∧ (((True) ∧ y_2 = false) ∧ ((True) ∧ ((True) ∧ ((True) ∧ ((((True) ∧ ((True) ∧ (True))) ∧ PureC Try.prog 176 [(.int .i64 (18 : Int)), (.pv (.int .i64 p_Status))] (.bool y_9) []) ∧ (((True) ∧ y_9 = false) ∧ ((True) ∧ ((True) ∧ ((True) ∧ (True))))))))))) := ⟨trivial, ⟨⟨⟨trivial, ⟨trivial, trivial⟩⟩, F176_ok n (1 : Int) p_Status y_2 hx3⟩, ⟨⟨trivial, c5⟩, ⟨trivial, ⟨trivial, ⟨trivial, ⟨⟨⟨trivial, ⟨trivial, trivial⟩⟩, F176_ok n (18 : Int) p_Status y_9 hx22⟩, ⟨⟨trivial, c24⟩, ⟨trivial, ⟨trivial, ⟨trivial, trivial⟩⟩⟩⟩⟩⟩⟩⟩⟩⟩⟩
          refine TS.reg [.none, (.call (.bool y_2) []), .dec false, .none, .none, .none, .none, .none, .none, (.call (.bool y_9) []), .dec false] ?_ ?_
          · apply prop_of ?_ hq
            kernel_rfl
          refine XS.then ?_
          refine TS.no ?_ ?_
          · kernel_rfl
          refine TS.skip ?_
          refine XS.blockEnd ?_
          refine XS.then ?_
          refine TS.seq ?_
          obtain ⟨y_12, hx31, h⟩ := bind_some' h
          rcases bif_some h with ⟨c32, h⟩ | ⟨c33, h⟩
          · have hq : (True) ∧ ((((True) ∧ ((True) ∧ (True))) ∧ PureC Try.prog 176 [(.int .i64 (2 : Int)), (.pv (.int .i64 p_Status))] (.bool y_12) []) ∧ ((True) ∧ (((True) ∧ (!y_12) = true) ∧ ((True) ∧ ((True) ∧ (True)))))) := ⟨trivial, ⟨⟨⟨trivial, ⟨trivial, trivial⟩⟩, F176_ok n (2 : Int) p_Status y_12 hx31⟩, ⟨trivial, ⟨⟨trivial, c32⟩, ⟨trivial, ⟨trivial, trivial⟩⟩⟩⟩⟩⟩
            refine TS.reg [.none, (.call (.bool y_12) []), .none, .dec true] ?_ ?_
            · apply prop_of ?_ hq
              kernel_rfl
            refine XS.then ?_
            refine TS.ret ?_
            obtain rfl : true = r := Option.some.inj h
            exact XS.fin [] ((True) ∧ (True)) (by kernel_rfl) ⟨trivial, trivial⟩
          · obtain ⟨y_13, hx34, h⟩ := bind_some' h
            have hq : (True) ∧ ((((True) ∧ ((True) ∧ (True))) ∧ PureC Try.prog 176 [(.int .i64 (2 : Int)), (.pv (.int .i64 p_Status))] (.bool y_12) []) ∧ ((True) ∧ (((True) ∧ (!y_12) = false) ∧ ((True) ∧ ((((True) ∧ ((True) ∧ (True))) ∧ PureC Try.prog 176 [(.int .i64 (16 : Int)), (.pv (.int .i64 p_Status))] (.bool y_13) []) ∧ ((True) ∧ ((True) ∧ ((True) ∧ (True))))))))) := ⟨trivial, ⟨⟨⟨trivial, ⟨trivial, trivial⟩⟩, F176_ok n (2 : Int) p_Status y_12 hx31⟩, ⟨trivial, ⟨⟨trivial, c33⟩, ⟨trivial, ⟨⟨⟨trivial, ⟨trivial, trivial⟩⟩, F176_ok n (16 : Int) p_Status y_13 hx34⟩, ⟨trivial, ⟨trivial, ⟨trivial, trivial⟩⟩⟩⟩⟩⟩⟩⟩⟩
            refine TS.reg [.none, (.call (.bool y_12) []), .none, .dec false, .none, (.call (.bool y_13) [])] ?_ ?_
            · apply prop_of ?_ hq
              kernel_rfl
            refine XS.then ?_
            refine TS.ret ?_
            obtain rfl : (!y_13) = r := Option.some.inj h
            exact XS.fin [] ((True) ∧ (True)) (by kernel_rfl) ⟨trivial, trivial⟩
  · rcases bif_some h with ⟨c35, h⟩ | ⟨c36, h⟩
    · have hq : (True) ∧ ((True) ∧ (((True) ∧ (decide (p_Status < (0 : Int))) = true) ∧ ((True) ∧ ((True) ∧ ((True) ∧ ((True) ∧ ((True) ∧ ((True) ∧ (True))))))))) := ⟨trivial, ⟨trivial, ⟨⟨trivial, c35⟩, ⟨trivial, ⟨trivial, ⟨trivial, ⟨trivial, ⟨trivial, ⟨trivial, trivial⟩⟩⟩⟩⟩⟩⟩⟩⟩
      refine TS.reg [.none, .none, .dec true] ?_ ?_
      · apply prop_of ?_ hq
        kernel_rfl
      refine XS.reAny [1] (mkMask 52 [4, 8]) true h ?_
      kernel_rfl
    · rcases bif_some h with ⟨c37, h⟩ | ⟨c38, h⟩
      · have hq : (True) ∧ ((True) ∧ (((True) ∧ (decide (p_Status < (0 : Int))) = false) ∧ ((True) ∧ ((True) ∧ ((True) ∧ ((True) ∧ (((True) ∧ ((bitsI .andNot .i64 p_Status (275 : Int)) != (0 : Int)) = true) ∧ ((True) ∧ ((True) ∧ ((True) ∧ ((True) ∧ (True)))))))))))) := ⟨trivial, ⟨trivial, ⟨⟨trivial, c36⟩, ⟨trivial, ⟨trivial, ⟨trivial, ⟨trivial, ⟨⟨trivial, c37⟩, ⟨trivial, ⟨trivial, ⟨trivial, ⟨trivial, trivial⟩⟩⟩⟩⟩⟩⟩⟩⟩⟩⟩⟩
        refine TS.reg [.none, .none, .dec false, .none, .none, .none, .none, .dec true] ?_ ?_
        · apply prop_of ?_ hq
          kernel_rfl
        refine XS.reAny [1] (mkMask 52 [4, 8]) true h ?_
        kernel_rfl
      · rcases bif_some h with ⟨c39, h⟩ | ⟨c40, h⟩
        · have hq : (True) ∧ ((True) ∧ (((True) ∧ (decide (p_Status < (0 : Int))) = false) ∧ ((True) ∧ ((True) ∧ ((True) ∧ ((True) ∧ (((True) ∧ ((bitsI .andNot .i64 p_Status (275 : Int)) != (0 : Int)) = false) ∧ ((True) ∧ ((True) ∧ ((True) ∧ ((True) ∧ (((True) ∧ (decide (p_Change < (0 : Int))) = true) ∧ ((True) ∧ ((True) ∧ (True))))))))))))))) := ⟨trivial, ⟨trivial, ⟨⟨trivial, c36⟩, ⟨trivial, ⟨trivial, ⟨trivial, ⟨trivial, ⟨⟨trivial, c38⟩, ⟨trivial, ⟨trivial, ⟨trivial, ⟨trivial, ⟨⟨trivial, c39⟩, ⟨trivial, ⟨trivial, trivial⟩⟩⟩⟩⟩⟩⟩⟩⟩⟩⟩⟩⟩⟩⟩
          refine TS.reg [.none, .none, .dec false, .none, .none, .none, .none, .dec false, .none, .none, .none, .none, .dec true] ?_ ?_
          · apply prop_of ?_ hq
            kernel_rfl
          refine XS.reAny [1] (mkMask 52 [4, 8]) true h ?_
          kernel_rfl
        · have hq : (True) ∧ ((True) ∧ (((True) ∧ (decide (p_Status < (0 : Int))) = false) ∧ ((True) ∧ ((True) ∧ ((True) ∧ ((True) ∧ (((True) ∧ ((bitsI .andNot .i64 p_Status (275 : Int)) != (0 : Int)) = false) ∧ ((True) ∧ ((True) ∧ ((True) ∧ ((True) ∧ (((True) ∧ (decide (p_Change < (0 : Int))) = false) ∧ ((True) ∧ ((True) ∧ ((True) ∧ ((True) ∧ ((True) ∧ ((True) ∧ (True))))))))))))))))))) := ⟨trivial, ⟨trivial, ⟨⟨trivial, c36⟩, ⟨trivial, ⟨trivial, ⟨trivial, ⟨trivial, ⟨⟨trivial, c38⟩, ⟨trivial, ⟨trivial, ⟨trivial, ⟨trivial, ⟨⟨trivial, c40⟩, ⟨trivial, ⟨trivial, ⟨trivial, ⟨trivial, ⟨trivial, ⟨trivial, trivial⟩⟩⟩⟩⟩⟩⟩⟩⟩⟩⟩⟩⟩⟩⟩⟩⟩⟩⟩
          refine TS.reg [.none, .none, .dec false, .none, .none, .none, .none, .dec false, .none, .none, .none, .none, .dec false] ?_ ?_
          · apply prop_of ?_ hq
            kernel_rfl
          refine XS.reAny [1] (mkMask 52 [4, 8]) ((bitsI .andNot .i64 p_Change (19 : Int)) != (0 : Int)) h ?_
          kernel_rfl

/-! plugtree/hub.Check -/
def F88_l2 (n : Nat) (h_Count : Int) (h_Ports : List (Int × Int)) (k88_2 : Int → Option Int) : Int → Option Int
  | x => (bif (decide (x < (16 : Int))) then (bif inb x 16 then (bif (x == (0 : Int)) then (bif (!(Sh.beq (.st (.pair (.int .i64) (.int .i64))) ((h_Ports.getD x.toNat ((0 : Int), (0 : Int))).1, (h_Ports.getD x.toNat ((0 : Int), (0 : Int))).2) ((0 : Int), (0 : Int)))) then (some (4 : Int)) else ((F151 n ((h_Ports.getD x.toNat ((0 : Int), (0 : Int))).1) ((h_Ports.getD x.toNat ((0 : Int), (0 : Int))).2)).bind fun y_2 => (bif (!y_2) then (some (4 : Int)) else (k88_2 (IntKind.wrap .i64 (x + (1 : Int))))))) else (bif (decide (x > h_Count)) then (bif (!(Sh.beq (.st (.pair (.int .i64) (.int .i64))) ((h_Ports.getD x.toNat ((0 : Int), (0 : Int))).1, (h_Ports.getD x.toNat ((0 : Int), (0 : Int))).2) ((0 : Int), (0 : Int)))) then (some (4 : Int)) else ((F151 n ((h_Ports.getD x.toNat ((0 : Int), (0 : Int))).1) ((h_Ports.getD x.toNat ((0 : Int), (0 : Int))).2)).bind fun y_3 => (bif (!y_3) then (some (4 : Int)) else (k88_2 (IntKind.wrap .i64 (x + (1 : Int))))))) else ((F151 n ((h_Ports.getD x.toNat ((0 : Int), (0 : Int))).1) ((h_Ports.getD x.toNat ((0 : Int), (0 : Int))).2)).bind fun y_4 => (bif (!y_4) then (some (4 : Int)) else (k88_2 (IntKind.wrap .i64 (x + (1 : Int)))))))) else none) else (some (0 : Int)))
def F88 (n : Nat) (h_Count : Int) (h_Ports : List (Int × Int)) : Option Int := (bif (decide (h_Count < (1 : Int))) then (some (1 : Int)) else (bif (decide (h_Count > (15 : Int))) then (some (1 : Int)) else (loopF (F88_l2 n h_Count h_Ports) n (0 : Int))))
theorem F88_ok (n : Nat) (h_Count : Int) (h_Ports : List (Int × Int)) (r : Int) (h : F88 n h_Count h_Ports = some r) : PureC Try.prog 88 [(.st (.cons (.int .i64 h_Count) (.arr 16 (.st (.pair (.int .i64) (.int .i64))) h_Ports)))] (.int .i64 r) [] := by
  refine PureC.mkS Try.func88 rfl rfl ?_
  intro w0 fz0 hfz
  replace h : (bif (decide (h_Count < (1 : Int))) then (some (1 : Int)) else (bif (decide (h_Count > (15 : Int))) then (some (1 : Int)) else (loopF (F88_l2 n h_Count h_Ports) n (0 : Int)))) = some r := h
  refine TS.seq ?_
  have hq : (True) ∧ ((True) ∧ (True)) := ⟨trivial, ⟨trivial, trivial⟩⟩
  refine TS.reg [] ?_ ?_
  · apply prop_of ?_ hq
    kernel_rfl
  refine XS.then ?_
  refine TS.seq ?_
  refine TS.seq ?_
  rcases bif_some h with ⟨c1, h⟩ | ⟨c2, h⟩
  · have hq : (True) ∧ ((True) ∧ ((True) ∧ (((True) ∧ (decide (h_Count < (1 : Int))) = true) ∧ ((True) ∧ (True))))) := ⟨trivial, ⟨trivial, ⟨trivial, ⟨⟨trivial, c1⟩, ⟨trivial, trivial⟩⟩⟩⟩⟩
    refine TS.reg [.none, .none, .none, .dec true] ?_ ?_
    · apply prop_of ?_ hq
      kernel_rfl
    refine XS.then ?_
    refine TS.yes ?_ ?_
    · kernel_rfl
    refine TS.seq ?_
    have hq : (True) ∧ (True) := ⟨trivial, trivial⟩
    refine TS.reg [] ?_ ?_
    · apply prop_of ?_ hq
      kernel_rfl
    refine XS.then ?_
    refine TS.ret ?_
    refine XS.passR ?_
    obtain rfl : (1 : Int) = r := Option.some.inj h
    exact XS.fin [] ((True) ∧ (True)) (by kernel_rfl) ⟨trivial, trivial⟩
  · have hq : (True) ∧ ((True) ∧ ((True) ∧ (((True) ∧ (decide (h_Count < (1 : Int))) = false) ∧ ((True) ∧ ((True) ∧ ((True) ∧ ((True) ∧ (True)))))))) := ⟨trivial, ⟨trivial, ⟨trivial, ⟨⟨trivial, c2⟩, ⟨trivial, ⟨trivial, ⟨trivial, ⟨trivial, trivial⟩⟩⟩⟩⟩⟩⟩⟩
    refine TS.reg [.none, .none, .none, .dec false] ?_ ?_
    · apply prop_of ?_ hq
      kernel_rfl
    refine XS.then ?_
    rcases bif_some h with ⟨c3, h⟩ | ⟨c4, h⟩
    · refine TS.cond (decide (h_Count > (15 : Int))) ?_ (fun hcz => ?_) (fun hcz => by rw [c3] at hcz; cases hcz)
      · kernel_rfl
      refine TS.seq ?_
      have hq : (True) ∧ (True) := ⟨trivial, trivial⟩
      refine TS.reg [] ?_ ?_
      · apply prop_of ?_ hq
        kernel_rfl
      refine XS.then ?_
      refine TS.ret ?_
      refine XS.passR ?_
      obtain rfl : (1 : Int) = r := Option.some.inj h
      exact XS.fin [] ((True) ∧ (True)) (by kernel_rfl) ⟨trivial, trivial⟩
    · refine TS.cond (decide (h_Count > (15 : Int))) ?_ (fun hcz => by rw [c4] at hcz; cases hcz) (fun hcz => ?_)
      · kernel_rfl
      refine TS.skip ?_
      refine XS.then ?_
      refine TS.seq ?_
      refine TS.seq ?_
      have hq : (True) ∧ ((True) ∧ ((True) ∧ (True))) := ⟨trivial, ⟨trivial, ⟨trivial, trivial⟩⟩⟩
      refine TS.reg [] ?_ ?_
      · apply prop_of ?_ hq
        kernel_rfl
      refine XS.then ?_
      refine TS.block ?_
      refine TS.reLoop [0] (mkMask 38 [1, 14, 15]) (D := Int) (fun d => match d with | x => (mkTs 38 [(1, (.ptr 0 [])), (14, (.arr 16 (.st (.pair (.int .i64) (.int .i64))) h_Ports)), (15, (.int .i64 x))], [(.box 66 (.st (.cons (.int .i64 h_Count) (.arr 16 (.st (.pair (.int .i64) (.int .i64))) h_Ports))))])) (fun n' d => loopF (F88_l2 n h_Count h_Ports) n' d = some r) n (0 : Int) h ?_ (fun d => loopF_zero _ d r) ?_
      · kernel_rfl
      · rintro n2 x h
        replace h : (bif (decide (x < (16 : Int))) then (bif inb x 16 then (bif (x == (0 : Int)) then (bif (!(Sh.beq (.st (.pair (.int .i64) (.int .i64))) ((h_Ports.getD x.toNat ((0 : Int), (0 : Int))).1, (h_Ports.getD x.toNat ((0 : Int), (0 : Int))).2) ((0 : Int), (0 : Int)))) then (some (4 : Int)) else ((F151 n ((h_Ports.getD x.toNat ((0 : Int), (0 : Int))).1) ((h_Ports.getD x.toNat ((0 : Int), (0 : Int))).2)).bind fun y_2 => (bif (!y_2) then (some (4 : Int)) else ((loopF (F88_l2 n h_Count h_Ports) n2) (IntKind.wrap .i64 (x + (1 : Int))))))) else (bif (decide (x > h_Count)) then (bif (!(Sh.beq (.st (.pair (.int .i64) (.int .i64))) ((h_Ports.getD x.toNat ((0 : Int), (0 : Int))).1, (h_Ports.getD x.toNat ((0 : Int), (0 : Int))).2) ((0 : Int), (0 : Int)))) then (some (4 : Int)) else ((F151 n ((h_Ports.getD x.toNat ((0 : Int), (0 : Int))).1) ((h_Ports.getD x.toNat ((0 : Int), (0 : Int))).2)).bind fun y_3 => (bif (!y_3) then (some (4 : Int)) else ((loopF (F88_l2 n h_Count h_Ports) n2) (IntKind.wrap .i64 (x + (1 : Int))))))) else ((F151 n ((h_Ports.getD x.toNat ((0 : Int), (0 : Int))).1) ((h_Ports.getD x.toNat ((0 : Int), (0 : Int))).2)).bind fun y_4 => (bif (!y_4) then (some (4 : Int)) else ((loopF (F88_l2 n h_Count h_Ports) n2) (IntKind.wrap .i64 (x + (1 : Int)))))))) else none) else (some (0 : Int))) = some r := h
        refine TS.seq ?_
        have hq : (True) ∧ (True) := ⟨trivial, trivial⟩
        refine TS.reg [] ?_ ?_
        · apply prop_of ?_ hq
          kernel_rfl
        refine XS.then ?_
        refine TS.seq ?_
        rcases bif_some h with ⟨c5, h⟩ | ⟨c6, h⟩
        · refine TS.cond (decide (x < (16 : Int))) ?_ (fun hcz => ?_) (fun hcz => by rw [c5] at hcz; cases hcz)
          · kernel_rfl
          refine TS.skip ?_
          refine XS.then ?_
          refine TS.seq ?_
          refine TS.block ?_
          refine TS.seq ?_
          obtain ⟨t7, h⟩ := test_some h
          have hq : (True) ∧ ((inR x 16) ∧ ((True) ∧ ((True) ∧ ((True) ∧ (True))))) := ⟨trivial, ⟨inb_ok t7, ⟨trivial, ⟨trivial, ⟨trivial, trivial⟩⟩⟩⟩⟩
          refine TS.reg [] ?_ ?_
          · apply prop_of ?_ hq
            kernel_rfl
          refine XS.then ?_
          refine TS.seq ?_
          rcases bif_some h with ⟨c8, h⟩ | ⟨c9, h⟩
          · rcases bif_some h with ⟨c10, h⟩ | ⟨c11, h⟩
            · have hq : (True) ∧ ((True) ∧ (((True) ∧ (x == (0 : Int)) = true) ∧ ((True) ∧ ((True) ∧ ((True) ∧ ((True) ∧ ((True) ∧ ((True) ∧ (((True) ∧ (!(Sh.beq (.st (.pair (.int .i64) (.int .i64))) ((h_Ports.getD x.toNat ((0 : Int), (0 : Int))).1, (h_Ports.getD x.toNat ((0 : Int), (0 : Int))).2) ((0 : Int), (0 : Int)))) = true) ∧ ((True) ∧ (True))))))))))) := ⟨trivial, ⟨trivial, ⟨⟨trivial, c8⟩, ⟨trivial, ⟨trivial, ⟨trivial, ⟨trivial, ⟨trivial, ⟨trivial, ⟨⟨trivial, c10⟩, ⟨trivial, trivial⟩⟩⟩⟩⟩⟩⟩⟩⟩⟩⟩
              refine TS.reg [.none, .none, .dec true, .none, .none, .none, .none, .none, .none, .none, .none, .none, .none, .dec true] ?_ ?_
              · apply prop_of ?_ hq
                kernel_rfl
              refine XS.then ?_
              refine TS.yes ?_ ?_
              · kernel_rfl
              refine TS.seq ?_
              have hq : (True) ∧ (True) := ⟨trivial, trivial⟩
              refine TS.reg [] ?_ ?_
              · apply prop_of ?_ hq
                kernel_rfl
              refine XS.then ?_
              refine TS.ret ?_
              refine XS.blockRet ?_
              refine XS.passR ?_
              refine XS.passR ?_
              refine XS.blockRet ?_
              refine XS.passR ?_
              obtain rfl : (4 : Int) = r := Option.some.inj h
              exact XS.fin [] ((True) ∧ (True)) (by kernel_rfl) ⟨trivial, trivial⟩
            · obtain ⟨y_2, hx12, h⟩ := bind_some' h
              have hq : (True) ∧ ((True) ∧ (((True) ∧ (x == (0 : Int)) = true) ∧ ((True) ∧ ((True) ∧ ((True) ∧ ((True) ∧ ((True) ∧ ((True) ∧ (((True) ∧ (!(Sh.beq (.st (.pair (.int .i64) (.int .i64))) ((h_Ports.getD x.toNat ((0 : Int), (0 : Int))).1, (h_Ports.getD x.toNat ((0 : Int), (0 : Int))).2) ((0 : Int), (0 : Int)))) = false) ∧ ((True) ∧ ((PureC Try.prog 151 [(.st (.cons (.int .i64 (h_Ports.getD x.toNat ((0 : Int), (0 : Int))).1) (.int .i64 (h_Ports.getD x.toNat ((0 : Int), (0 : Int))).2)))] (.bool y_2) []) ∧ ((True) ∧ ((True) ∧ (True)))))))))))))) := ⟨trivial, ⟨trivial, ⟨⟨trivial, c8⟩, ⟨trivial, ⟨trivial, ⟨trivial, ⟨trivial, ⟨trivial, ⟨trivial, ⟨⟨trivial, c11⟩, ⟨trivial, ⟨F151_ok n ((h_Ports.getD x.toNat ((0 : Int), (0 : Int))).1) ((h_Ports.getD x.toNat ((0 : Int), (0 : Int))).2) y_2 hx12, ⟨trivial, ⟨trivial, trivial⟩⟩⟩⟩⟩⟩⟩⟩⟩⟩⟩⟩⟩⟩
              refine TS.reg [.none, .none, .dec true, .none, .none, .none, .none, .none, .none, .none, .none, .none, .none, .dec false, .none, (.call (.bool y_2) [])] ?_ ?_
              · apply prop_of ?_ hq
                kernel_rfl
              refine XS.then ?_
              rcases bif_some h with ⟨c13, h⟩ | ⟨c14, h⟩
              · refine TS.cond (!y_2) ?_ (fun hcz => ?_) (fun hcz => by rw [c13] at hcz; cases hcz)
                · kernel_rfl
                refine TS.seq ?_
                have hq : (True) ∧ (True) := ⟨trivial, trivial⟩
                refine TS.reg [] ?_ ?_
                · apply prop_of ?_ hq
                  kernel_rfl
                refine XS.then ?_
                refine TS.ret ?_
                refine XS.blockRet ?_
                refine XS.passR ?_
                refine XS.passR ?_
                refine XS.blockRet ?_
                refine XS.passR ?_
                obtain rfl : (4 : Int) = r := Option.some.inj h
                exact XS.fin [] ((True) ∧ (True)) (by kernel_rfl) ⟨trivial, trivial⟩
              · refine TS.cond (!y_2) ?_ (fun hcz => by rw [c14] at hcz; cases hcz) (fun hcz => ?_)
                · kernel_rfl
                refine TS.skip ?_
                refine XS.blockEnd ?_
                refine XS.then ?_
                have hq : (True) ∧ ((True) ∧ (True)) := ⟨trivial, ⟨trivial, trivial⟩⟩
                refine TS.reg [] ?_ ?_
                · apply prop_of ?_ hq
                  kernel_rfl
                refine XS.reAny [0] (mkMask 38 [1, 14, 15]) (IntKind.wrap .i64 (x + (1 : Int))) h ?_
                kernel_rfl
          · rcases bif_some h with ⟨c15, h⟩ | ⟨c16, h⟩
            · rcases bif_some h with ⟨c17, h⟩ | ⟨c18, h⟩
              · have hq : (True) ∧ ((True) ∧ (((True) ∧ (x == (0 : Int)) = false) ∧ ((True) ∧ ((True) ∧ ((True) ∧ ((True) ∧ ((True) ∧ (((True) ∧ (decide (x > h_Count)) = true) ∧ ((True) ∧ ((True) ∧ ((True) ∧ ((True) ∧ (((True) ∧ (!(Sh.beq (.st (.pair (.int .i64) (.int .i64))) ((h_Ports.getD x.toNat ((0 : Int), (0 : Int))).1, (h_Ports.getD x.toNat ((0 : Int), (0 : Int))).2) ((0 : Int), (0 : Int)))) = true) ∧ ((True) ∧ (True))))))))))))))) := ⟨trivial, ⟨trivial, ⟨⟨trivial, c9⟩, ⟨trivial, ⟨trivial, ⟨trivial, ⟨trivial, ⟨trivial, ⟨⟨trivial, c15⟩, ⟨trivial, ⟨trivial, ⟨trivial, ⟨trivial, ⟨⟨trivial, c17⟩, ⟨trivial, trivial⟩⟩⟩⟩⟩⟩⟩⟩⟩⟩⟩⟩⟩⟩⟩
                refine TS.reg [.none, .none, .dec false, .none, .none, .none, .none, .none, .dec true, .none, .none, .none, .none, .dec true] ?_ ?_
                · apply prop_of ?_ hq
                  kernel_rfl
                refine XS.then ?_
                refine TS.yes ?_ ?_
                · kernel_rfl
                refine TS.seq ?_
                have hq : (True) ∧ (True) := ⟨trivial, trivial⟩
                refine TS.reg [] ?_ ?_
                · apply prop_of ?_ hq
                  kernel_rfl
                refine XS.then ?_
                refine TS.ret ?_
                refine XS.blockRet ?_
                refine XS.passR ?_
                refine XS.passR ?_
                refine XS.blockRet ?_
                refine XS.passR ?_
                obtain rfl : (4 : Int) = r := Option.some.inj h
                exact XS.fin [] ((True) ∧ (True)) (by kernel_rfl) ⟨trivial, trivial⟩
              · obtain ⟨y_3, hx19, h⟩ := bind_some' h
                have hq : (True) ∧ ((True) ∧ (((True) ∧ (x == (0 : Int)) = false) ∧ ((True) ∧ ((True) ∧ ((True) ∧ ((True) ∧ ((True) ∧ (((True) ∧ (decide (x > h_Count)) = true) ∧ ((True) ∧ ((True) ∧ ((True) ∧ ((True) ∧ (((True) ∧ (!(Sh.beq (.st (.pair (.int .i64) (.int .i64))) ((h_Ports.getD x.toNat ((0 : Int), (0 : Int))).1, (h_Ports.getD x.toNat ((0 : Int), (0 : Int))).2) ((0 : Int), (0 : Int)))) = false) ∧ ((True) ∧ ((PureC Try.prog 151 [(.st (.cons (.int .i64 (h_Ports.getD x.toNat ((0 : Int), (0 : Int))).1) (.int .i64 (h_Ports.getD x.toNat ((0 : Int), (0 : Int))).2)))] (.bool y_3) []) ∧ ((True) ∧ ((True) ∧ (True)))))))))))))))))) := ⟨trivial, ⟨trivial, ⟨⟨trivial, c9⟩, ⟨trivial, ⟨trivial, ⟨trivial, ⟨trivial, ⟨trivial, ⟨⟨trivial, c15⟩, ⟨trivial, ⟨trivial, ⟨trivial, ⟨trivial, ⟨⟨trivial, c18⟩, ⟨trivial, ⟨F151_ok n ((h_Ports.getD x.toNat ((0 : Int), (0 : Int))).1) ((h_Ports.getD x.toNat ((0 : Int), (0 : Int))).2) y_3 hx19, ⟨trivial, ⟨trivial, trivial⟩⟩⟩⟩⟩⟩⟩⟩⟩⟩⟩⟩⟩⟩⟩⟩⟩⟩
                refine TS.reg [.none, .none, .dec false, .none, .none, .none, .none, .none, .dec true, .none, .none, .none, .none, .dec false, .none, (.call (.bool y_3) [])] ?_ ?_
                · apply prop_of ?_ hq
                  kernel_rfl
                refine XS.then ?_
                rcases bif_some h with ⟨c20, h⟩ | ⟨c21, h⟩
                · refine TS.cond (!y_3) ?_ (fun hcz => ?_) (fun hcz => by rw [c20] at hcz; cases hcz)
                  · kernel_rfl
                  refine TS.seq ?_
                  have hq : (True) ∧ (True) := ⟨trivial, trivial⟩
                  refine TS.reg [] ?_ ?_
                  · apply prop_of ?_ hq
                    kernel_rfl
                  refine XS.then ?_
                  refine TS.ret ?_
                  refine XS.blockRet ?_
                  refine XS.passR ?_
                  refine XS.passR ?_
                  refine XS.blockRet ?_
                  refine XS.passR ?_
                  obtain rfl : (4 : Int) = r := Option.some.inj h
                  exact XS.fin [] ((True) ∧ (True)) (by kernel_rfl) ⟨trivial, trivial⟩
                · refine TS.cond (!y_3) ?_ (fun hcz => by rw [c21] at hcz; cases hcz) (fun hcz => ?_)
                  · kernel_rfl
                  refine TS.skip ?_
                  refine XS.blockEnd ?_
                  refine XS.then ?_
                  have hq : (True) ∧ ((True) ∧ (True)) := ⟨trivial, ⟨trivial, trivial⟩⟩
                  refine TS.reg [] ?_ ?_
                  · apply prop_of ?_ hq
                    kernel_rfl
                  refine XS.reAny [0] (mkMask 38 [1, 14, 15]) (IntKind.wrap .i64 (x + (1 : Int))) h ?_
                  kernel_rfl
            · obtain ⟨y_4, hx22, h⟩ := bind_some' h
              have hq : (True) ∧ ((True) ∧ (((True) ∧ (x == (0 : Int)) = false) ∧ ((True) ∧ ((True) ∧ ((True) ∧ ((True) ∧ ((True) ∧ (((True) ∧ (decide (x > h_Count)) = false) ∧ ((True) ∧ ((True) ∧ ((True) ∧ ((PureC Try.prog 151 [(.st (.cons (.int .i64 (h_Ports.getD x.toNat ((0 : Int), (0 : Int))).1) (.int .i64 (h_Ports.getD x.toNat ((0 : Int), (0 : Int))).2)))] (.bool y_4) []) ∧ ((True) ∧ ((True) ∧ (True))))))))))))))) := ⟨trivial, ⟨trivial, ⟨⟨trivial, c9⟩, ⟨trivial, ⟨trivial, ⟨trivial, ⟨trivial, ⟨trivial, ⟨⟨trivial, c16⟩, ⟨trivial, ⟨trivial, ⟨trivial, ⟨F151_ok n ((h_Ports.getD x.toNat ((0 : Int), (0 : Int))).1) ((h_Ports.getD x.toNat ((0 : Int), (0 : Int))).2) y_4 hx22, ⟨trivial, ⟨trivial, trivial⟩⟩⟩⟩⟩⟩⟩⟩⟩⟩⟩⟩⟩⟩⟩
              refine TS.reg [.none, .none, .dec false, .none, .none, .none, .none, .none, .dec false, .none, .none, .none, .none, .none, .none, (.call (.bool y_4) [])] ?_ ?_
              · apply prop_of ?_ hq
                kernel_rfl
              refine XS.then ?_
              rcases bif_some h with ⟨c23, h⟩ | ⟨c24, h⟩
              · refine TS.cond (!y_4) ?_ (fun hcz => ?_) (fun hcz => by rw [c23] at hcz; cases hcz)
                · kernel_rfl
                refine TS.seq ?_
                have hq : (True) ∧ (True) := ⟨trivial, trivial⟩
                refine TS.reg [] ?_ ?_
                · apply prop_of ?_ hq
                  kernel_rfl
                refine XS.then ?_
                refine TS.ret ?_
                refine XS.blockRet ?_
                refine XS.passR ?_
                refine XS.passR ?_
                refine XS.blockRet ?_
                refine XS.passR ?_
                obtain rfl : (4 : Int) = r := Option.some.inj h
                exact XS.fin [] ((True) ∧ (True)) (by kernel_rfl) ⟨trivial, trivial⟩
              · refine TS.cond (!y_4) ?_ (fun hcz => by rw [c24] at hcz; cases hcz) (fun hcz => ?_)
                · kernel_rfl
                refine TS.skip ?_
                refine XS.blockEnd ?_
                refine XS.then ?_
                have hq : (True) ∧ ((True) ∧ (True)) := ⟨trivial, ⟨trivial, trivial⟩⟩
                refine TS.reg [] ?_ ?_
                · apply prop_of ?_ hq
                  kernel_rfl
                refine XS.reAny [0] (mkMask 38 [1, 14, 15]) (IntKind.wrap .i64 (x + (1 : Int))) h ?_
                kernel_rfl
        · refine TS.cond (decide (x < (16 : Int))) ?_ (fun hcz => by rw [c6] at hcz; cases hcz) (fun hcz => ?_)
          · kernel_rfl
          refine TS.exit ?_
          refine XS.passE ?_
          refine XS.passE ?_
          refine XS.out ?_
          refine XS.then ?_
          refine TS.seq ?_
          have hq : (True) ∧ (True) := ⟨trivial, trivial⟩
          refine TS.reg [] ?_ ?_
          · apply prop_of ?_ hq
            kernel_rfl
          refine XS.then ?_
          refine TS.ret ?_
          obtain rfl : (0 : Int) = r := Option.some.inj h
          exact XS.fin [] ((True) ∧ (True)) (by kernel_rfl) ⟨trivial, trivial⟩

/-! plugtree/setup.Read$1 -/
def F152 (n : Nat) (i : Int) (x : List UInt8) : Option Int := (bif inb i x.length then (bif inb (IntKind.wrap .i64 (i + (1 : Int))) x.length then (some (bitsI .or .i64 (IntKind.wrap .i64 ((((x.getD i.toNat 0).toNat : Nat) : Int))) (shlI .i64 (IntKind.wrap .i64 ((((x.getD ((IntKind.wrap .i64 (i + (1 : Int))).toNat) 0).toNat : Nat) : Int))) (8 : Int)))) else none) else none)
theorem F152_ok (n : Nat) (i : Int) (x : List UInt8) (r : Int) (h : F152 n i x = some r) : PureC Try.prog 152 [(.int .i64 i), (.pv (.str x))] (.int .i64 r) [] := by
  refine PureC.mkS Try.func152 rfl rfl ?_
  intro w0 fz0 hfz
  replace h : (bif inb i x.length then (bif inb (IntKind.wrap .i64 (i + (1 : Int))) x.length then (some (bitsI .or .i64 (IntKind.wrap .i64 ((((x.getD i.toNat 0).toNat : Nat) : Int))) (shlI .i64 (IntKind.wrap .i64 ((((x.getD ((IntKind.wrap .i64 (i + (1 : Int))).toNat) 0).toNat : Nat) : Int))) (8 : Int)))) else none) else none) = some r := h
  refine TS.seq ?_
  have hq : (True) ∧ (True) := ⟨trivial, trivial⟩
  refine TS.reg [] ?_ ?_
  · apply prop_of ?_ hq
    kernel_rfl
  refine XS.then ?_
  refine TS.seq ?_
  obtain ⟨t1, h⟩ := test_some h
  obtain ⟨t2, h⟩ := test_some h
  have hq : ((True) ∧ ((True) ∧ ((inR i x.length) ∧ ((True) ∧ ((True) ∧ ((True) ∧ ((True) ∧ ((inR (IntKind.wrap .i64 (i + (1 : Int))) x.length) ∧ ((True) ∧ ((0 ≤ (8 : Int)) ∧ ((True) ∧ (True)))))))))))) ∧ ((True) ∧ (True)) := ⟨⟨trivial, ⟨trivial, ⟨inb_ok t1, ⟨trivial, ⟨trivial, ⟨trivial, ⟨trivial, ⟨inb_ok t2, ⟨trivial, ⟨by decide, ⟨trivial, trivial⟩⟩⟩⟩⟩⟩⟩⟩⟩⟩⟩, ⟨trivial, trivial⟩⟩
  refine TS.draw 11 [] [] (by kernel_rfl) ?_ ?_
  · apply prop_of ?_ hq
    kernel_rfl
  refine XS.then ?_
  refine TS.ret ?_
  obtain rfl : (bitsI .or .i64 (IntKind.wrap .i64 ((((x.getD i.toNat 0).toNat : Nat) : Int))) (shlI .i64 (IntKind.wrap .i64 ((((x.getD ((IntKind.wrap .i64 (i + (1 : Int))).toNat) 0).toNat : Nat) : Int))) (8 : Int))) = r := Option.some.inj h
  exact XS.fin [] ((True) ∧ (True)) (by kernel_rfl) ⟨trivial, trivial⟩

/-! plugtree/setup.rowOf -/
def F131 (n : Nat) (kind : Int) : Option (Int × Int × Int × Int × Int × Bool) := (bif (kind == (1 : Int)) then (some ((128 : Int), (0 : Int), (0 : Int), (0 : Int), (2 : Int), true)) else (bif (kind == (2 : Int)) then (some ((2 : Int), (1 : Int), (0 : Int), (3 : Int), (0 : Int), true)) else (bif (kind == (3 : Int)) then (some ((2 : Int), (3 : Int), (0 : Int), (3 : Int), (0 : Int), true)) else (bif (kind == (4 : Int)) then (some ((0 : Int), (5 : Int), (4 : Int), (0 : Int), (0 : Int), true)) else (bif (kind == (5 : Int)) then (some ((128 : Int), (6 : Int), (1 : Int), (1 : Int), (-1 : Int), true)) else (bif (kind == (6 : Int)) then (some ((0 : Int), (9 : Int), (2 : Int), (0 : Int), (0 : Int), true)) else (bif (kind == (7 : Int)) then (some ((128 : Int), (8 : Int), (0 : Int), (0 : Int), (1 : Int), true)) else (bif (kind == (8 : Int)) then (some ((163 : Int), (0 : Int), (0 : Int), (5 : Int), (4 : Int), true)) else (bif (kind == (9 : Int)) then (some ((35 : Int), (3 : Int), (6 : Int), (5 : Int), (0 : Int), true)) else (bif (kind == (10 : Int)) then (some ((35 : Int), (1 : Int), (6 : Int), (5 : Int), (0 : Int), true)) else (bif (kind == (11 : Int)) then (some ((33 : Int), (255 : Int), (0 : Int), (2 : Int), (0 : Int), true)) else (bif (kind == (12 : Int)) then (some ((161 : Int), (254 : Int), (0 : Int), (2 : Int), (1 : Int), true)) else (bif (kind == (13 : Int)) then (some ((33 : Int), (10 : Int), (1 : Int), (2 : Int), (0 : Int), true)) else (bif (kind == (14 : Int)) then (some ((33 : Int), (9 : Int), (7 : Int), (2 : Int), (1 : Int), true)) else (some ((0 : Int), (0 : Int), (0 : Int), (0 : Int), (0 : Int), false))))))))))))))))
theorem F131_ok (n : Nat) (kind : Int) (r : Int × Int × Int × Int × Int × Bool) (h : F131 n kind = some r) : PureC Try.prog 131 [(.int .i64 kind)] (.tup (.cons (.st (.cons (.int .u8 r.1) (.cons (.int .u8 r.2.1) (.cons (.int .i64 r.2.2.1) (.cons (.int .i64 r.2.2.2.1) (.int .i64 r.2.2.2.2.1)))))) (.cons (.bool r.2.2.2.2.2) .nil))) [] := by
  refine PureC.mkS Try.func131 rfl rfl ?_
  intro w0 fz0 hfz
  replace h : (bif (kind == (1 : Int)) then (some ((128 : Int), (0 : Int), (0 : Int), (0 : Int), (2 : Int), true)) else (bif (kind == (2 : Int)) then (some ((2 : Int), (1 : Int), (0 : Int), (3 : Int), (0 : Int), true)) else (bif (kind == (3 : Int)) then (some ((2 : Int), (3 : Int), (0 : Int), (3 : Int), (0 : Int), true)) else (bif (kind == (4 : Int)) then (some ((0 : Int), (5 : Int), (4 : Int), (0 : Int), (0 : Int), true)) else (bif (kind == (5 : Int)) then (some ((128 : Int), (6 : Int), (1 : Int), (1 : Int), (-1 : Int), true)) else (bif (kind == (6 : Int)) then (some ((0 : Int), (9 : Int), (2 : Int), (0 : Int), (0 : Int), true)) else (bif (kind == (7 : Int)) then (some ((128 : Int), (8 : Int), (0 : Int), (0 : Int), (1 : Int), true)) else (bif (kind == (8 : Int)) then (some ((163 : Int), (0 : Int), (0 : Int), (5 : Int), (4 : Int), true)) else (bif (kind == (9 : Int)) then (some ((35 : Int), (3 : Int), (6 : Int), (5 : Int), (0 : Int), true)) else (bif (kind == (10 : Int)) then (some ((35 : Int), (1 : Int), (6 : Int), (5 : Int), (0 : Int), true)) else (bif (kind == (11 : Int)) then (some ((33 : Int), (255 : Int), (0 : Int), (2 : Int), (0 : Int), true)) else (bif (kind == (12 : Int)) then (some ((161 : Int), (254 : Int), (0 : Int), (2 : Int), (1 : Int), true)) else (bif (kind == (13 : Int)) then (some ((33 : Int), (10 : Int), (1 : Int), (2 : Int), (0 : Int), true)) else (bif (kind == (14 : Int)) then (some ((33 : Int), (9 : Int), (7 : Int), (2 : Int), (1 : Int), true)) else (some ((0 : Int), (0 : Int), (0 : Int), (0 : Int), (0 : Int), false)))))))))))))))) = some r := h
  refine TS.seq ?_
  have hq : (True) ∧ ((True) ∧ (True)) := ⟨trivial, ⟨trivial, trivial⟩⟩
  refine TS.reg [] ?_ ?_
  · apply prop_of ?_ hq
    kernel_rfl
  refine XS.then ?_
  refine TS.seq ?_
  refine TS.seq ?_
  have hq : (True) ∧ (True) := ⟨trivial, trivial⟩
  refine TS.reg [] ?_ ?_
  · apply prop_of ?_ hq
    kernel_rfl
  refine XS.then ?_
  refine TS.block ?_
  refine TS.seq ?_
  have hq : (True) ∧ ((True) ∧ (True)) := ⟨trivial, ⟨trivial, trivial⟩⟩
  refine TS.reg [] ?_ ?_
  · apply prop_of ?_ hq
    kernel_rfl
  refine XS.then ?_
  rcases bif_some h with ⟨c1, h⟩ | ⟨c2, h⟩
  · refine TS.cond (kind == (1 : Int)) ?_ (fun hcz => ?_) (fun hcz => by rw [c1] at hcz; cases hcz)
    · kernel_rfl
    refine TS.seq ?_
    have hq : ((True) ∧ ((True) ∧ ((True) ∧ ((True) ∧ ((True) ∧ (True)))))) ∧ ((True) ∧ ((True) ∧ (True))) := ⟨⟨trivial, ⟨trivial, ⟨trivial, ⟨trivial, ⟨trivial, trivial⟩⟩⟩⟩⟩, ⟨trivial, ⟨trivial, trivial⟩⟩⟩
    refine TS.reg [] ?_ ?_
    · apply prop_of ?_ hq
      kernel_rfl
    refine XS.then ?_
    refine TS.ret ?_
    refine XS.blockRet ?_
    refine XS.passR ?_
    obtain rfl : ((128 : Int), (0 : Int), (0 : Int), (0 : Int), (2 : Int), true) = r := Option.some.inj h
    exact XS.fin [] ((True) ∧ ((True) ∧ (True))) (by kernel_rfl) ⟨trivial, ⟨trivial, trivial⟩⟩
  · refine TS.cond (kind == (1 : Int)) ?_ (fun hcz => by rw [c2] at hcz; cases hcz) (fun hcz => ?_)
    · kernel_rfl
    refine TS.seq ?_
    have hq : (True) ∧ ((True) ∧ (True)) := ⟨trivial, ⟨trivial, trivial⟩⟩
    refine TS.reg [] ?_ ?_
    · apply prop_of ?_ hq
      kernel_rfl
    refine XS.then ?_
    rcases bif_some h with ⟨c3, h⟩ | ⟨c4, h⟩
    · refine TS.cond (kind == (2 : Int)) ?_ (fun hcz => ?_) (fun hcz => by rw [c3] at hcz; cases hcz)
      · kernel_rfl
      refine TS.seq ?_
      have hq : ((True) ∧ ((True) ∧ ((True) ∧ ((True) ∧ ((True) ∧ (True)))))) ∧ ((True) ∧ ((True) ∧ (True))) := ⟨⟨trivial, ⟨trivial, ⟨trivial, ⟨trivial, ⟨trivial, trivial⟩⟩⟩⟩⟩, ⟨trivial, ⟨trivial, trivial⟩⟩⟩
      refine TS.reg [] ?_ ?_
      · apply prop_of ?_ hq
        kernel_rfl
      refine XS.then ?_
      refine TS.ret ?_
      refine XS.blockRet ?_
      refine XS.passR ?_
      obtain rfl : ((2 : Int), (1 : Int), (0 : Int), (3 : Int), (0 : Int), true) = r := Option.some.inj h
      exact XS.fin [] ((True) ∧ ((True) ∧ (True))) (by kernel_rfl) ⟨trivial, ⟨trivial, trivial⟩⟩
    · refine TS.cond (kind == (2 : Int)) ?_ (fun hcz => by rw [c4] at hcz; cases hcz) (fun hcz => ?_)
      · kernel_rfl
      refine TS.seq ?_
      have hq : (True) ∧ ((True) ∧ (True)) := ⟨trivial, ⟨trivial, trivial⟩⟩
      refine TS.reg [] ?_ ?_
      · apply prop_of ?_ hq
        kernel_rfl
      refine XS.then ?_
      rcases bif_some h with ⟨c5, h⟩ | ⟨c6, h⟩
      · refine TS.cond (kind == (3 : Int)) ?_ (fun hcz => ?_) (fun hcz => by rw [c5] at hcz; cases hcz)
        · kernel_rfl
        refine TS.seq ?_
        have hq : ((True) ∧ ((True) ∧ ((True) ∧ ((True) ∧ ((True) ∧ (True)))))) ∧ ((True) ∧ ((True) ∧ (True))) := ⟨⟨trivial, ⟨trivial, ⟨trivial, ⟨trivial, ⟨trivial, trivial⟩⟩⟩⟩⟩, ⟨trivial, ⟨trivial, trivial⟩⟩⟩
        refine TS.reg [] ?_ ?_
        · apply prop_of ?_ hq
          kernel_rfl
        refine XS.then ?_
        refine TS.ret ?_
        refine XS.blockRet ?_
        refine XS.passR ?_
        obtain rfl : ((2 : Int), (3 : Int), (0 : Int), (3 : Int), (0 : Int), true) = r := Option.some.inj h
        exact XS.fin [] ((True) ∧ ((True) ∧ (True))) (by kernel_rfl) ⟨trivial, ⟨trivial, trivial⟩⟩
      · refine TS.cond (kind == (3 : Int)) ?_ (fun hcz => by rw [c6] at hcz; cases hcz) (fun hcz => ?_)
        · kernel_rfl
        refine TS.seq ?_
        have hq : (True) ∧ ((True) ∧ (True)) := ⟨trivial, ⟨trivial, trivial⟩⟩
        refine TS.reg [] ?_ ?_
        · apply prop_of ?_ hq
          kernel_rfl
        refine XS.then ?_
        rcases bif_some h with ⟨c7, h⟩ | ⟨c8, h⟩
        · refine TS.cond (kind == (4 : Int)) ?_ (fun hcz => ?_) (fun hcz => by rw [c7] at hcz; cases hcz)
          · kernel_rfl
          refine TS.seq ?_
          have hq : ((True) ∧ ((True) ∧ ((True) ∧ ((True) ∧ ((True) ∧ (True)))))) ∧ ((True) ∧ ((True) ∧ (True))) := ⟨⟨trivial, ⟨trivial, ⟨trivial, ⟨trivial, ⟨trivial, trivial⟩⟩⟩⟩⟩, ⟨trivial, ⟨trivial, trivial⟩⟩⟩
          refine TS.reg [] ?_ ?_
          · apply prop_of ?_ hq
            kernel_rfl
          refine XS.then ?_
          refine TS.ret ?_
          refine XS.blockRet ?_
          refine XS.passR ?_
          obtain rfl : ((0 : Int), (5 : Int), (4 : Int), (0 : Int), (0 : Int), true) = r := Option.some.inj h
          exact XS.fin [] ((True) ∧ ((True) ∧ (True))) (by kernel_rfl) ⟨trivial, ⟨trivial, trivial⟩⟩
        · refine TS.cond (kind == (4 : Int)) ?_ (fun hcz => by rw [c8] at hcz; cases hcz) (fun hcz => ?_)
          · kernel_rfl
          refine TS.seq ?_
          have hq : (True) ∧ ((True) ∧ (True)) := ⟨trivial, ⟨trivial, trivial⟩⟩
          refine TS.reg [] ?_ ?_
          · apply prop_of ?_ hq
            kernel_rfl
          refine XS.then ?_
          rcases bif_some h with ⟨c9, h⟩ | ⟨c10, h⟩
          · refine TS.cond (kind == (5 : Int)) ?_ (fun hcz => ?_) (fun hcz => by rw [c9] at hcz; cases hcz)
            · kernel_rfl
            refine TS.seq ?_
            have hq : ((True) ∧ ((True) ∧ ((True) ∧ ((True) ∧ ((True) ∧ (True)))))) ∧ ((True) ∧ ((True) ∧ (True))) := ⟨⟨trivial, ⟨trivial, ⟨trivial, ⟨trivial, ⟨trivial, trivial⟩⟩⟩⟩⟩, ⟨trivial, ⟨trivial, trivial⟩⟩⟩
            refine TS.reg [] ?_ ?_
            · apply prop_of ?_ hq
              kernel_rfl
            refine XS.then ?_
            refine TS.ret ?_
            refine XS.blockRet ?_
            refine XS.passR ?_
            obtain rfl : ((128 : Int), (6 : Int), (1 : Int), (1 : Int), (-1 : Int), true) = r := Option.some.inj h
            exact XS.fin [] ((True) ∧ ((True) ∧ (True))) (by kernel_rfl) ⟨trivial, ⟨trivial, trivial⟩⟩
          · refine TS.cond (kind == (5 : Int)) ?_ (fun hcz => by rw [c10] at hcz; cases hcz) (fun hcz => ?_)
            · kernel_rfl
            refine TS.seq ?_
            have hq : (True) ∧ ((True) ∧ (True)) := ⟨trivial, ⟨trivial, trivial⟩⟩
            refine TS.reg [] ?_ ?_
            · apply prop_of ?_ hq
              kernel_rfl
            refine XS.then ?_
            rcases bif_some h with ⟨c11, h⟩ | ⟨c12, h⟩
            · refine TS.cond (kind == (6 : Int)) ?_ (fun hcz => ?_) (fun hcz => by rw [c11] at hcz; cases hcz)
              · kernel_rfl
              refine TS.seq ?_
              have hq : ((True) ∧ ((True) ∧ ((True) ∧ ((True) ∧ ((True) ∧ (True)))))) ∧ ((True) ∧ ((True) ∧ (True))) := ⟨⟨trivial, ⟨trivial, ⟨trivial, ⟨trivial, ⟨trivial, trivial⟩⟩⟩⟩⟩, ⟨trivial, ⟨trivial, trivial⟩⟩⟩
              refine TS.reg [] ?_ ?_
              · apply prop_of ?_ hq
                kernel_rfl
              refine XS.then ?_
              refine TS.ret ?_
              refine XS.blockRet ?_
              refine XS.passR ?_
              obtain rfl : ((0 : Int), (9 : Int), (2 : Int), (0 : Int), (0 : Int), true) = r := Option.some.inj h
              exact XS.fin [] ((True) ∧ ((True) ∧ (True))) (by kernel_rfl) ⟨trivial, ⟨trivial, trivial⟩⟩
            · refine TS.cond (kind == (6 : Int)) ?_ (fun hcz => by rw [c12] at hcz; cases hcz) (fun hcz => ?_)
              · kernel_rfl
              refine TS.seq ?_
              have hq : (True) ∧ ((True) ∧ (True)) := ⟨trivial, ⟨trivial, trivial⟩⟩
              refine TS.reg [] ?_ ?_
              · apply prop_of ?_ hq
                kernel_rfl
              refine XS.then ?_
              rcases bif_some h with ⟨c13, h⟩ | ⟨c14, h⟩
              · refine TS.cond (kind == (7 : Int)) ?_ (fun hcz => ?_) (fun hcz => by rw [c13] at hcz; cases hcz)
                · kernel_rfl
                refine TS.seq ?_
                have hq : ((True) ∧ ((True) ∧ ((True) ∧ ((True) ∧ ((True) ∧ (True)))))) ∧ ((True) ∧ ((True) ∧ (True))) := ⟨⟨trivial, ⟨trivial, ⟨trivial, ⟨trivial, ⟨trivial, trivial⟩⟩⟩⟩⟩, ⟨trivial, ⟨trivial, trivial⟩⟩⟩
                refine TS.reg [] ?_ ?_
                · apply prop_of ?_ hq
                  kernel_rfl
                refine XS.then ?_
                refine TS.ret ?_
                refine XS.blockRet ?_
                refine XS.passR ?_
                obtain rfl : ((128 : Int), (8 : Int), (0 : Int), (0 : Int), (1 : Int), true) = r := Option.some.inj h
                exact XS.fin [] ((True) ∧ ((True) ∧ (True))) (by kernel_rfl) ⟨trivial, ⟨trivial, trivial⟩⟩
              · refine TS.cond (kind == (7 : Int)) ?_ (fun hcz => by rw [c14] at hcz; cases hcz) (fun hcz => ?_)
                · kernel_rfl
                refine TS.seq ?_
                have hq : (True) ∧ ((True) ∧ (True)) := ⟨trivial, ⟨trivial, trivial⟩⟩
                refine TS.reg [] ?_ ?_
                · apply prop_of ?_ hq
                  kernel_rfl
                refine XS.then ?_
                rcases bif_some h with ⟨c15, h⟩ | ⟨c16, h⟩
                · refine TS.cond (kind == (8 : Int)) ?_ (fun hcz => ?_) (fun hcz => by rw [c15] at hcz; cases hcz)
                  · kernel_rfl
                  refine TS.seq ?_
                  have hq : ((True) ∧ ((True) ∧ ((True) ∧ ((True) ∧ ((True) ∧ (True)))))) ∧ ((True) ∧ ((True) ∧ (True))) := ⟨⟨trivial, ⟨trivial, ⟨trivial, ⟨trivial, ⟨trivial, trivial⟩⟩⟩⟩⟩, ⟨trivial, ⟨trivial, trivial⟩⟩⟩
                  refine TS.reg [] ?_ ?_
                  · apply prop_of ?_ hq
                    kernel_rfl
                  refine XS.then ?_
                  refine TS.ret ?_
                  refine XS.blockRet ?_
                  refine XS.passR ?_
                  obtain rfl : ((163 : Int), (0 : Int), (0 : Int), (5 : Int), (4 : Int), true) = r := Option.some.inj h
                  exact XS.fin [] ((True) ∧ ((True) ∧ (True))) (by kernel_rfl) ⟨trivial, ⟨trivial, trivial⟩⟩
                · refine TS.cond (kind == (8 : Int)) ?_ (fun hcz => by rw [c16] at hcz; cases hcz) (fun hcz => ?_)
                  · kernel_rfl
                  refine TS.seq ?_
                  have hq : (True) ∧ ((True) ∧ (True)) := ⟨trivial, ⟨trivial, trivial⟩⟩
                  refine TS.reg [] ?_ ?_
                  · apply prop_of ?_ hq
                    kernel_rfl
                  refine XS.then ?_
                  rcases bif_some h with ⟨c17, h⟩ | ⟨c18, h⟩
                  · refine TS.cond (kind == (9 : Int)) ?_ (fun hcz => ?_) (fun hcz => by rw [c17] at hcz; cases hcz)
                    · kernel_rfl
                    refine TS.seq ?_
                    have hq : ((True) ∧ ((True) ∧ ((True) ∧ ((True) ∧ ((True) ∧ (True)))))) ∧ ((True) ∧ ((True) ∧ (True))) := ⟨⟨trivial, ⟨trivial, ⟨trivial, ⟨trivial, ⟨trivial, trivial⟩⟩⟩⟩⟩, ⟨trivial, ⟨trivial, trivial⟩⟩⟩
                    refine TS.reg [] ?_ ?_
                    · apply prop_of ?_ hq
                      kernel_rfl
                    refine XS.then ?_
                    refine TS.ret ?_
                    refine XS.blockRet ?_
                    refine XS.passR ?_
                    obtain rfl : ((35 : Int), (3 : Int), (6 : Int), (5 : Int), (0 : Int), true) = r := Option.some.inj h
                    exact XS.fin [] ((True) ∧ ((True) ∧ (True))) (by kernel_rfl) ⟨trivial, ⟨trivial, trivial⟩⟩
                  · refine TS.cond (kind == (9 : Int)) ?_ (fun hcz => by rw [c18] at hcz; cases hcz) (fun hcz => ?_)
                    · kernel_rfl
                    refine TS.seq ?_
                    have hq : (True) ∧ ((True) ∧ (True)) := ⟨trivial, ⟨trivial, trivial⟩⟩
                    refine TS.reg [] ?_ ?_
                    · apply prop_of ?_ hq
                      kernel_rfl
                    refine XS.then ?_
                    rcases bif_some h with ⟨c19, h⟩ | ⟨c20, h⟩
                    · refine TS.cond (kind == (10 : Int)) ?_ (fun hcz => ?_) (fun hcz => by rw [c19] at hcz; cases hcz)
                      · kernel_rfl
                      refine TS.seq ?_
                      have hq : ((True) ∧ ((True) ∧ ((True) ∧ ((True) ∧ ((True) ∧ (True)))))) ∧ ((True) ∧ ((True) ∧ (True))) := ⟨⟨trivial, ⟨trivial, ⟨trivial, ⟨trivial, ⟨trivial, trivial⟩⟩⟩⟩⟩, ⟨trivial, ⟨trivial, trivial⟩⟩⟩
                      refine TS.reg [] ?_ ?_
                      · apply prop_of ?_ hq
                        kernel_rfl
                      refine XS.then ?_
                      refine TS.ret ?_
                      refine XS.blockRet ?_
                      refine XS.passR ?_
                      obtain rfl : ((35 : Int), (1 : Int), (6 : Int), (5 : Int), (0 : Int), true) = r := Option.some.inj h
                      exact XS.fin [] ((True) ∧ ((True) ∧ (True))) (by kernel_rfl) ⟨trivial, ⟨trivial, trivial⟩⟩
                    · refine TS.cond (kind == (10 : Int)) ?_ (fun hcz => by rw [c20] at hcz; cases hcz) (fun hcz => ?_)
                      · kernel_rfl
                      refine TS.seq ?_
                      have hq : (True) ∧ ((True) ∧ (True)) := ⟨trivial, ⟨trivial, trivial⟩⟩
                      refine TS.reg [] ?_ ?_
                      · apply prop_of ?_ hq
                        kernel_rfl
                      refine XS.then ?_
                      rcases bif_some h with ⟨c21, h⟩ | ⟨c22, h⟩
                      · refine TS.cond (kind == (11 : Int)) ?_ (fun hcz => ?_) (fun hcz => by rw [c21] at hcz; cases hcz)
                        · kernel_rfl
                        refine TS.seq ?_
                        have hq : ((True) ∧ ((True) ∧ ((True) ∧ ((True) ∧ ((True) ∧ (True)))))) ∧ ((True) ∧ ((True) ∧ (True))) := ⟨⟨trivial, ⟨trivial, ⟨trivial, ⟨trivial, ⟨trivial, trivial⟩⟩⟩⟩⟩, ⟨trivial, ⟨trivial, trivial⟩⟩⟩
                        refine TS.reg [] ?_ ?_
                        · apply prop_of ?_ hq
                          kernel_rfl
                        refine XS.then ?_
                        refine TS.ret ?_
                        refine XS.blockRet ?_
                        refine XS.passR ?_
                        obtain rfl : ((33 : Int), (255 : Int), (0 : Int), (2 : Int), (0 : Int), true) = r := Option.some.inj h
                        exact XS.fin [] ((True) ∧ ((True) ∧ (True))) (by kernel_rfl) ⟨trivial, ⟨trivial, trivial⟩⟩
                      · refine TS.cond (kind == (11 : Int)) ?_ (fun hcz => by rw [c22] at hcz; cases hcz) (fun hcz => ?_)
                        · kernel_rfl
                        refine TS.seq ?_
                        have hq : (True) ∧ ((True) ∧ (True)) := ⟨trivial, ⟨trivial, trivial⟩⟩
                        refine TS.reg [] ?_ ?_
                        · apply prop_of ?_ hq
                          kernel_rfl
                        refine XS.then ?_
                        rcases bif_some h with ⟨c23, h⟩ | ⟨c24, h⟩
                        · refine TS.cond (kind == (12 : Int)) ?_ (fun hcz => ?_) (fun hcz => by rw [c23] at hcz; cases hcz)
                          · kernel_rfl
                          refine TS.seq ?_
                          have hq : ((True) ∧ ((True) ∧ ((True) ∧ ((True) ∧ ((True) ∧ (True)))))) ∧ ((True) ∧ ((True) ∧ (True))) := ⟨⟨trivial, ⟨trivial, ⟨trivial, ⟨trivial, ⟨trivial, trivial⟩⟩⟩⟩⟩, ⟨trivial, ⟨trivial, trivial⟩⟩⟩
                          refine TS.reg [] ?_ ?_
                          · apply prop_of ?_ hq
                            kernel_rfl
                          refine XS.then ?_
                          refine TS.ret ?_
                          refine XS.blockRet ?_
                          refine XS.passR ?_
                          obtain rfl : ((161 : Int), (254 : Int), (0 : Int), (2 : Int), (1 : Int), true) = r := Option.some.inj h
                          exact XS.fin [] ((True) ∧ ((True) ∧ (True))) (by kernel_rfl) ⟨trivial, ⟨trivial, trivial⟩⟩
                        · refine TS.cond (kind == (12 : Int)) ?_ (fun hcz => by rw [c24] at hcz; cases hcz) (fun hcz => ?_)
                          · kernel_rfl
                          refine TS.seq ?_
                          have hq : (True) ∧ ((True) ∧ (True)) := ⟨trivial, ⟨trivial, trivial⟩⟩
                          refine TS.reg [] ?_ ?_
                          · apply prop_of ?_ hq
                            kernel_rfl
                          refine XS.then ?_
                          rcases bif_some h with ⟨c25, h⟩ | ⟨c26, h⟩
                          · refine TS.cond (kind == (13 : Int)) ?_ (fun hcz => ?_) (fun hcz => by rw [c25] at hcz; cases hcz)
                            · kernel_rfl
                            refine TS.seq ?_
                            have hq : ((True) ∧ ((True) ∧ ((True) ∧ ((True) ∧ ((True) ∧ (True)))))) ∧ ((True) ∧ ((True) ∧ (True))) := ⟨⟨trivial, ⟨trivial, ⟨trivial, ⟨trivial, ⟨trivial, trivial⟩⟩⟩⟩⟩, ⟨trivial, ⟨trivial, trivial⟩⟩⟩
                            refine TS.reg [] ?_ ?_
                            · apply prop_of ?_ hq
                              kernel_rfl
                            refine XS.then ?_
                            refine TS.ret ?_
                            refine XS.blockRet ?_
                            refine XS.passR ?_
                            obtain rfl : ((33 : Int), (10 : Int), (1 : Int), (2 : Int), (0 : Int), true) = r := Option.some.inj h
                            exact XS.fin [] ((True) ∧ ((True) ∧ (True))) (by kernel_rfl) ⟨trivial, ⟨trivial, trivial⟩⟩
                          · refine TS.cond (kind == (13 : Int)) ?_ (fun hcz => by rw [c26] at hcz; cases hcz) (fun hcz => ?_)
                            · kernel_rfl
                            refine TS.seq ?_
                            have hq : (True) ∧ ((True) ∧ (True)) := ⟨trivial, ⟨trivial, trivial⟩⟩
                            refine TS.reg [] ?_ ?_
                            · apply prop_of ?_ hq
                              kernel_rfl
                            refine XS.then ?_
                            rcases bif_some h with ⟨c27, h⟩ | ⟨c28, h⟩
                            · refine TS.cond (kind == (14 : Int)) ?_ (fun hcz => ?_) (fun hcz => by rw [c27] at hcz; cases hcz)
                              · kernel_rfl
                              refine TS.seq ?_
                              have hq : ((True) ∧ ((True) ∧ ((True) ∧ ((True) ∧ ((True) ∧ (True)))))) ∧ ((True) ∧ ((True) ∧ (True))) := ⟨⟨trivial, ⟨trivial, ⟨trivial, ⟨trivial, ⟨trivial, trivial⟩⟩⟩⟩⟩, ⟨trivial, ⟨trivial, trivial⟩⟩⟩
                              refine TS.reg [] ?_ ?_
                              · apply prop_of ?_ hq
                                kernel_rfl
                              refine XS.then ?_
                              refine TS.ret ?_
                              refine XS.blockRet ?_
                              refine XS.passR ?_
                              obtain rfl : ((33 : Int), (9 : Int), (7 : Int), (2 : Int), (1 : Int), true) = r := Option.some.inj h
                              exact XS.fin [] ((True) ∧ ((True) ∧ (True))) (by kernel_rfl) ⟨trivial, ⟨trivial, trivial⟩⟩
                            · refine TS.cond (kind == (14 : Int)) ?_ (fun hcz => by rw [c28] at hcz; cases hcz) (fun hcz => ?_)
                              · kernel_rfl
                              refine TS.skip ?_
                              refine XS.blockEnd ?_
                              refine XS.then ?_
                              refine TS.seq ?_
                              have hq : (True) ∧ ((True) ∧ ((True) ∧ (True))) := ⟨trivial, ⟨trivial, ⟨trivial, trivial⟩⟩⟩
                              refine TS.reg [] ?_ ?_
                              · apply prop_of ?_ hq
                                kernel_rfl
                              refine XS.then ?_
                              refine TS.ret ?_
                              obtain rfl : ((0 : Int), (0 : Int), (0 : Int), (0 : Int), (0 : Int), false) = r := Option.some.inj h
                              exact XS.fin [] ((True) ∧ ((True) ∧ (True))) (by kernel_rfl) ⟨trivial, ⟨trivial, trivial⟩⟩

/-! plugtree/setup.can$1 -/
def F172 (n : Nat) (low : Int) (high : Int) (x : Int) : Option Bool := (bif (decide (x ≥ low)) then (some (decide (x ≤ high))) else (some false))
theorem F172_ok (n : Nat) (low : Int) (high : Int) (x : Int) (r : Bool) (h : F172 n low high x = some r) : PureC Try.prog 172 [(.int .i64 low), (.int .i64 high), (.pv (.int .i64 x))] (.bool r) [] := by
  refine PureC.mkS Try.func172 rfl rfl ?_
  intro w0 fz0 hfz
  replace h : (bif (decide (x ≥ low)) then (some (decide (x ≤ high))) else (some false)) = some r := h
  refine TS.seq ?_
  have hq : (True) ∧ (True) := ⟨trivial, trivial⟩
  refine TS.reg [] ?_ ?_
  · apply prop_of ?_ hq
    kernel_rfl
  refine XS.then ?_
  refine TS.seq ?_
  rcases bif_some h with ⟨c1, h⟩ | ⟨c2, h⟩
  · have hq : (True) ∧ ((True) ∧ ((True) ∧ (((True) ∧ (decide (x ≥ low)) = true) ∧ ((True) ∧ ((True) ∧ ((True) ∧ ((True) ∧ ((True) ∧ (True))))))))) := ⟨trivial, ⟨trivial, ⟨trivial, ⟨⟨trivial, c1⟩, ⟨trivial, ⟨trivial, ⟨trivial, ⟨trivial, ⟨trivial, trivial⟩⟩⟩⟩⟩⟩⟩⟩⟩
    refine TS.reg [.none, .none, .none, .dec true] ?_ ?_
    · apply prop_of ?_ hq
      kernel_rfl
    refine XS.then ?_
    refine TS.ret ?_
    obtain rfl : (decide (x ≤ high)) = r := Option.some.inj h
    exact XS.fin [] ((True) ∧ (True)) (by kernel_rfl) ⟨trivial, trivial⟩
  · have hq : (True) ∧ ((True) ∧ ((True) ∧ (((True) ∧ (decide (x ≥ low)) = false) ∧ ((True) ∧ ((True) ∧ (True)))))) := ⟨trivial, ⟨trivial, ⟨trivial, ⟨⟨trivial, c2⟩, ⟨trivial, ⟨trivial, trivial⟩⟩⟩⟩⟩⟩
    refine TS.reg [.none, .none, .none, .dec false] ?_ ?_
    · apply prop_of ?_ hq
      kernel_rfl
    refine XS.then ?_
    refine TS.ret ?_
    obtain rfl : false = r := Option.some.inj h
    exact XS.fin [] ((True) ∧ (True)) (by kernel_rfl) ⟨trivial, trivial⟩

/-! plugtree/setup.can -/
def F132 (n : Nat) (what : Int) (vn : Int) : Option Bool := (bif (what == (1 : Int)) then ((F172 n (0 : Int) (65535 : Int) vn).bind fun y_2 => (some y_2)) else (bif (what == (2 : Int)) then ((F172 n (0 : Int) (255 : Int) vn).bind fun y_3 => (some y_3)) else (bif (what == (3 : Int)) then ((F172 n (0 : Int) (15 : Int) vn).bind fun y_4 => (bif y_4 then (some true) else ((F172 n (128 : Int) (143 : Int) vn).bind fun y_5 => (some y_5)))) else (bif (what == (4 : Int)) then ((F172 n (0 : Int) (127 : Int) vn).bind fun y_6 => (some y_6)) else (bif (what == (5 : Int)) then ((F172 n (1 : Int) (15 : Int) vn).bind fun y_7 => (some y_7)) else (bif (what == (6 : Int)) then ((F172 n (0 : Int) (31 : Int) vn).bind fun y_8 => (some y_8)) else (bif (what == (7 : Int)) then (some (vn == (512 : Int))) else (some (vn == (0 : Int))))))))))
theorem F132_ok (n : Nat) (what : Int) (vn : Int) (r : Bool) (h : F132 n what vn = some r) : PureC Try.prog 132 [(.int .i64 what), (.int .i64 vn)] (.bool r) [] := by
  refine PureC.mkS Try.func132 rfl rfl ?_
  intro w0 fz0 hfz
  replace h : (bif (what == (1 : Int)) then ((F172 n (0 : Int) (65535 : Int) vn).bind fun y_2 => (some y_2)) else (bif (what == (2 : Int)) then ((F172 n (0 : Int) (255 : Int) vn).bind fun y_3 => (some y_3)) else (bif (what == (3 : Int)) then ((F172 n (0 : Int) (15 : Int) vn).bind fun y_4 => (bif y_4 then (some true) else ((F172 n (128 : Int) (143 : Int) vn).bind fun y_5 => (some y_5)))) else (bif (what == (4 : Int)) then ((F172 n (0 : Int) (127 : Int) vn).bind fun y_6 => (some y_6)) else (bif (what == (5 : Int)) then ((F172 n (1 : Int) (15 : Int) vn).bind fun y_7 => (some y_7)) else (bif (what == (6 : Int)) then ((F172 n (0 : Int) (31 : Int) vn).bind fun y_8 => (some y_8)) else (bif (what == (7 : Int)) then (some (vn == (512 : Int))) else (some (vn == (0 : Int)))))))))) = some r := h
  refine TS.seq ?_
  have hq : (True) ∧ ((True) ∧ (True)) := ⟨trivial, ⟨trivial, trivial⟩⟩
  refine TS.reg [] ?_ ?_
  · apply prop_of ?_ hq
    kernel_rfl
  refine XS.then ?_
  refine TS.seq ?_
  have hq : (True) ∧ ((True) ∧ (True)) := ⟨trivial, ⟨trivial, trivial⟩⟩
  refine TS.reg [] ?_ ?_
  · apply prop_of ?_ hq
    kernel_rfl
  refine XS.then ?_
  refine TS.seq ?_
  refine TS.seq ?_
  have hq : (True) ∧ (True) := ⟨trivial, trivial⟩
  refine TS.reg [] ?_ ?_
  · apply prop_of ?_ hq
    kernel_rfl
  refine XS.then ?_
  refine TS.block ?_
  refine TS.seq ?_
  have hq : (True) ∧ ((True) ∧ (True)) := ⟨trivial, ⟨trivial, trivial⟩⟩
  refine TS.reg [] ?_ ?_
  · apply prop_of ?_ hq
    kernel_rfl
  refine XS.then ?_
  rcases bif_some h with ⟨c1, h⟩ | ⟨c2, h⟩
  · refine TS.cond (what == (1 : Int)) ?_ (fun hcz => ?_) (fun hcz => by rw [c1] at hcz; cases hcz)
    · kernel_rfl
    refine TS.seq ?_
    obtain ⟨y_2, hx3, h⟩ := bind_some' h
    have hq : (True) ∧ ((((True) ∧ ((True) ∧ ((True) ∧ (True)))) ∧ PureC Try.prog 172 [(.int .i64 (0 : Int)), (.int .i64 (65535 : Int)), (.pv (.int .i64 vn))] (.bool y_2) []) ∧ ((True) ∧ (True))) := ⟨trivial, ⟨⟨⟨trivial, ⟨trivial, ⟨trivial, trivial⟩⟩⟩, F172_ok n (0 : Int) (65535 : Int) vn y_2 hx3⟩, ⟨trivial, trivial⟩⟩⟩
    refine TS.reg [.none, (.call (.bool y_2) [])] ?_ ?_
    · apply prop_of ?_ hq
      kernel_rfl
    refine XS.then ?_
    refine TS.ret ?_
    refine XS.blockRet ?_
    refine XS.passR ?_
    obtain rfl : y_2 = r := Option.some.inj h
    exact XS.fin [] ((True) ∧ (True)) (by kernel_rfl) ⟨trivial, trivial⟩
  · refine TS.cond (what == (1 : Int)) ?_ (fun hcz => by rw [c2] at hcz; cases hcz) (fun hcz => ?_)
    · kernel_rfl
    refine TS.seq ?_
    have hq : (True) ∧ ((True) ∧ (True)) := ⟨trivial, ⟨trivial, trivial⟩⟩
    refine TS.reg [] ?_ ?_
    · apply prop_of ?_ hq
      kernel_rfl
    refine XS.then ?_
    rcases bif_some h with ⟨c4, h⟩ | ⟨c5, h⟩
    · refine TS.cond (what == (2 : Int)) ?_ (fun hcz => ?_) (fun hcz => by rw [c4] at hcz; cases hcz)
      · kernel_rfl
      refine TS.seq ?_
      obtain ⟨y_3, hx6, h⟩ := bind_some' h
      have hq : (True) ∧ ((((True) ∧ ((True) ∧ ((True) ∧ (True)))) ∧ PureC Try.prog 172 [(.int .i64 (0 : Int)), (.int .i64 (255 : Int)), (.pv (.int .i64 vn))] (.bool y_3) []) ∧ ((True) ∧ (True))) := ⟨trivial, ⟨⟨⟨trivial, ⟨trivial, ⟨trivial, trivial⟩⟩⟩, F172_ok n (0 : Int) (255 : Int) vn y_3 hx6⟩, ⟨trivial, trivial⟩⟩⟩
      refine TS.reg [.none, (.call (.bool y_3) [])] ?_ ?_
      · apply prop_of ?_ hq
        kernel_rfl
      refine XS.then ?_
      refine TS.ret ?_
      refine XS.blockRet ?_
      refine XS.passR ?_
      obtain rfl : y_3 = r := Option.some.inj h
      exact XS.fin [] ((True) ∧ (True)) (by kernel_rfl) ⟨trivial, trivial⟩
    · refine TS.cond (what == (2 : Int)) ?_ (fun hcz => by rw [c5] at hcz; cases hcz) (fun hcz => ?_)
      · kernel_rfl
      refine TS.seq ?_
      have hq : (True) ∧ ((True) ∧ (True)) := ⟨trivial, ⟨trivial, trivial⟩⟩
      refine TS.reg [] ?_ ?_
      · apply prop_of ?_ hq
        kernel_rfl
      refine XS.then ?_
      rcases bif_some h with ⟨c7, h⟩ | ⟨c8, h⟩
      · refine TS.cond (what == (3 : Int)) ?_ (fun hcz => ?_) (fun hcz => by rw [c7] at hcz; cases hcz)
        · kernel_rfl
        refine TS.seq ?_
        obtain ⟨y_4, hx9, h⟩ := bind_some' h
        rcases bif_some h with ⟨c10, h⟩ | ⟨c11, h⟩
        · have hq : (True) ∧ ((((True) ∧ ((True) ∧ ((True) ∧ (True)))) ∧ PureC Try.prog 172 [(.int .i64 (0 : Int)), (.int .i64 (15 : Int)), (.pv (.int .i64 vn))] (.bool y_4) []) ∧ (((True) ∧ y_4 = true) ∧ ((True) ∧ ((True) ∧ (True))))) := ⟨trivial, ⟨⟨⟨trivial, ⟨trivial, ⟨trivial, trivial⟩⟩⟩, F172_ok n (0 : Int) (15 : Int) vn y_4 hx9⟩, ⟨⟨trivial, c10⟩, ⟨trivial, ⟨trivial, trivial⟩⟩⟩⟩⟩
          refine TS.reg [.none, (.call (.bool y_4) []), .dec true] ?_ ?_
          · apply prop_of ?_ hq
            kernel_rfl
          refine XS.then ?_
          refine TS.ret ?_
          refine XS.blockRet ?_
          refine XS.passR ?_
          obtain rfl : true = r := Option.some.inj h
          exact XS.fin [] ((True) ∧ (True)) (by kernel_rfl) ⟨trivial, trivial⟩
        · obtain ⟨y_5, hx12, h⟩ := bind_some' h
          have hq : (True) ∧ ((((True) ∧ ((True) ∧ ((True) ∧ (True)))) ∧ PureC Try.prog 172 [(.int .i64 (0 : Int)), (.int .i64 (15 : Int)), (.pv (.int .i64 vn))] (.bool y_4) []) ∧ (((True) ∧ y_4 = false) ∧ ((True) ∧ ((((True) ∧ ((True) ∧ ((True) ∧ (True)))) ∧ PureC Try.prog 172 [(.int .i64 (128 : Int)), (.int .i64 (143 : Int)), (.pv (.int .i64 vn))] (.bool y_5) []) ∧ ((True) ∧ ((True) ∧ (True))))))) := ⟨trivial, ⟨⟨⟨trivial, ⟨trivial, ⟨trivial, trivial⟩⟩⟩, F172_ok n (0 : Int) (15 : Int) vn y_4 hx9⟩, ⟨⟨trivial, c11⟩, ⟨trivial, ⟨⟨⟨trivial, ⟨trivial, ⟨trivial, trivial⟩⟩⟩, F172_ok n (128 : Int) (143 : Int) vn y_5 hx12⟩, ⟨trivial, ⟨trivial, trivial⟩⟩⟩⟩⟩⟩⟩
          refine TS.reg [.none, (.call (.bool y_4) []), .dec false, .none, (.call (.bool y_5) [])] ?_ ?_
          · apply prop_of ?_ hq
            kernel_rfl
          refine XS.then ?_
          refine TS.ret ?_
          refine XS.blockRet ?_
          refine XS.passR ?_
          obtain rfl : y_5 = r := Option.some.inj h
          exact XS.fin [] ((True) ∧ (True)) (by kernel_rfl) ⟨trivial, trivial⟩
      · refine TS.cond (what == (3 : Int)) ?_ (fun hcz => by rw [c8] at hcz; cases hcz) (fun hcz => ?_)
        · kernel_rfl
        refine TS.seq ?_
        have hq : (True) ∧ ((True) ∧ (True)) := ⟨trivial, ⟨trivial, trivial⟩⟩
        refine TS.reg [] ?_ ?_
        · apply prop_of ?_ hq
          kernel_rfl
        refine XS.then ?_
        rcases bif_some h with ⟨c13, h⟩ | ⟨c14, h⟩
        · refine TS.cond (what == (4 : Int)) ?_ (fun hcz => ?_) (fun hcz => by rw [c13] at hcz; cases hcz)
          · kernel_rfl
          refine TS.seq ?_
          obtain ⟨y_6, hx15, h⟩ := bind_some' h
          have hq : (True) ∧ ((((True) ∧ ((True) ∧ ((True) ∧ (True)))) ∧ PureC Try.prog 172 [(.int .i64 (0 : Int)), (.int .i64 (127 : Int)), (.pv (.int .i64 vn))] (.bool y_6) []) ∧ ((True) ∧ (True))) := ⟨trivial, ⟨⟨⟨trivial, ⟨trivial, ⟨trivial, trivial⟩⟩⟩, F172_ok n (0 : Int) (127 : Int) vn y_6 hx15⟩, ⟨trivial, trivial⟩⟩⟩
          refine TS.reg [.none, (.call (.bool y_6) [])] ?_ ?_
          · apply prop_of ?_ hq
            kernel_rfl
          refine XS.then ?_
          refine TS.ret ?_
          refine XS.blockRet ?_
          refine XS.passR ?_
          obtain rfl : y_6 = r := Option.some.inj h
          exact XS.fin [] ((True) ∧ (True)) (by kernel_rfl) ⟨trivial, trivial⟩
        · refine TS.cond (what == (4 : Int)) ?_ (fun hcz => by rw [c14] at hcz; cases hcz) (fun hcz => ?_)
          · kernel_rfl
          refine TS.seq ?_
          have hq : (True) ∧ ((True) ∧ (True)) := ⟨trivial, ⟨trivial, trivial⟩⟩
          refine TS.reg [] ?_ ?_
          · apply prop_of ?_ hq
            kernel_rfl
          refine XS.then ?_
          rcases bif_some h with ⟨c16, h⟩ | ⟨c17, h⟩
          · refine TS.cond (what == (5 : Int)) ?_ (fun hcz => ?_) (fun hcz => by rw [c16] at hcz; cases hcz)
            · kernel_rfl
            refine TS.seq ?_
            obtain ⟨y_7, hx18, h⟩ := bind_some' h
            have hq : (True) ∧ ((((True) ∧ ((True) ∧ ((True) ∧ (True)))) ∧ PureC Try.prog 172 [(.int .i64 (1 : Int)), (.int .i64 (15 : Int)), (.pv (.int .i64 vn))] (.bool y_7) []) ∧ ((True) ∧ (True))) := ⟨trivial, ⟨⟨⟨trivial, ⟨trivial, ⟨trivial, trivial⟩⟩⟩, F172_ok n (1 : Int) (15 : Int) vn y_7 hx18⟩, ⟨trivial, trivial⟩⟩⟩
            refine TS.reg [.none, (.call (.bool y_7) [])] ?_ ?_
            · apply prop_of ?_ hq
              kernel_rfl
            refine XS.then ?_
            refine TS.ret ?_
            refine XS.blockRet ?_
            refine XS.passR ?_
            obtain rfl : y_7 = r := Option.some.inj h
            exact XS.fin [] ((True) ∧ (True)) (by kernel_rfl) ⟨trivial, trivial⟩
          · refine TS.cond (what == (5 : Int)) ?_ (fun hcz => by rw [c17] at hcz; cases hcz) (fun hcz => ?_)
            · kernel_rfl
            refine TS.seq ?_
            have hq : (True) ∧ ((True) ∧ (True)) := ⟨trivial, ⟨trivial, trivial⟩⟩
            refine TS.reg [] ?_ ?_
            · apply prop_of ?_ hq
              kernel_rfl
            refine XS.then ?_
            rcases bif_some h with ⟨c19, h⟩ | ⟨c20, h⟩
            · refine TS.cond (what == (6 : Int)) ?_ (fun hcz => ?_) (fun hcz => by rw [c19] at hcz; cases hcz)
              · kernel_rfl
              refine TS.seq ?_
              obtain ⟨y_8, hx21, h⟩ := bind_some' h
              have hq : (True) ∧ ((((True) ∧ ((True) ∧ ((True) ∧ (True)))) ∧ PureC Try.prog 172 [(.int .i64 (0 : Int)), (.int .i64 (31 : Int)), (.pv (.int .i64 vn))] (.bool y_8) []) ∧ ((True) ∧ (True))) := ⟨trivial, ⟨⟨⟨trivial, ⟨trivial, ⟨trivial, trivial⟩⟩⟩, F172_ok n (0 : Int) (31 : Int) vn y_8 hx21⟩, ⟨trivial, trivial⟩⟩⟩
              refine TS.reg [.none, (.call (.bool y_8) [])] ?_ ?_
              · apply prop_of ?_ hq
                kernel_rfl
              refine XS.then ?_
              refine TS.ret ?_
              refine XS.blockRet ?_
              refine XS.passR ?_
              obtain rfl : y_8 = r := Option.some.inj h
              exact XS.fin [] ((True) ∧ (True)) (by kernel_rfl) ⟨trivial, trivial⟩
            · refine TS.cond (what == (6 : Int)) ?_ (fun hcz => by rw [c20] at hcz; cases hcz) (fun hcz => ?_)
              · kernel_rfl
              refine TS.seq ?_
              have hq : (True) ∧ ((True) ∧ (True)) := ⟨trivial, ⟨trivial, trivial⟩⟩
              refine TS.reg [] ?_ ?_
              · apply prop_of ?_ hq
                kernel_rfl
              refine XS.then ?_
              rcases bif_some h with ⟨c22, h⟩ | ⟨c23, h⟩
              · refine TS.cond (what == (7 : Int)) ?_ (fun hcz => ?_) (fun hcz => by rw [c22] at hcz; cases hcz)
                · kernel_rfl
                refine TS.seq ?_
                have hq : (True) ∧ ((True) ∧ ((True) ∧ (True))) := ⟨trivial, ⟨trivial, ⟨trivial, trivial⟩⟩⟩
                refine TS.reg [] ?_ ?_
                · apply prop_of ?_ hq
                  kernel_rfl
                refine XS.then ?_
                refine TS.ret ?_
                refine XS.blockRet ?_
                refine XS.passR ?_
                obtain rfl : (vn == (512 : Int)) = r := Option.some.inj h
                exact XS.fin [] ((True) ∧ (True)) (by kernel_rfl) ⟨trivial, trivial⟩
              · refine TS.cond (what == (7 : Int)) ?_ (fun hcz => by rw [c23] at hcz; cases hcz) (fun hcz => ?_)
                · kernel_rfl
                refine TS.skip ?_
                refine XS.blockEnd ?_
                refine XS.then ?_
                refine TS.seq ?_
                have hq : (True) ∧ ((True) ∧ ((True) ∧ (True))) := ⟨trivial, ⟨trivial, ⟨trivial, trivial⟩⟩⟩
                refine TS.reg [] ?_ ?_
                · apply prop_of ?_ hq
                  kernel_rfl
                refine XS.then ?_
                refine TS.ret ?_
                obtain rfl : (vn == (0 : Int)) = r := Option.some.inj h
                exact XS.fin [] ((True) ∧ (True)) (by kernel_rfl) ⟨trivial, trivial⟩

/-! plugtree/setup.Write -/
def F56_l6 (n : Nat) (a_Value : Int) (a_Index : Int) (a_Length : Int) (length : Bool) (k56_6 : (Int × (List Int)) → Option ((List UInt8) × Int)) : (Int × (List Int)) → Option ((List UInt8) × Int)
  | (x_2, m0) => (bif (decide (x_2 < (([a_Value, a_Index, a_Length].length : Nat) : Int))) then (bif inb x_2 ([a_Value, a_Index, a_Length].length) then (bif (decide (m0.length + ([(IntKind.wrap .u8 (([a_Value, a_Index, a_Length].getD x_2.toNat (0 : Int)))), (IntKind.wrap .u8 ((shrI .i64 ([a_Value, a_Index, a_Length].getD x_2.toNat (0 : Int)) (8 : Int))))]).length ≤ 17179869184)) then (k56_6 ((IntKind.wrap .i64 (x_2 + (1 : Int))), (m0 ++ [(IntKind.wrap .u8 (([a_Value, a_Index, a_Length].getD x_2.toNat (0 : Int)))), (IntKind.wrap .u8 ((shrI .i64 ([a_Value, a_Index, a_Length].getD x_2.toNat (0 : Int)) (8 : Int))))]))) else none) else none) else (some ((strOf m0), (0 : Int))))
def F56_j5 (n : Nat) (a_Value : Int) (a_Index : Int) (a_Length : Int) (y_3 : Int × Int × Int × Int × Int × Bool) (length : Bool) : Bool → Option ((List UInt8) × Int)
  | x => (bif x then (some (([] : List UInt8), (1 : Int))) else (loopF (F56_l6 n a_Value a_Index a_Length length) n ((0 : Int), [y_3.1, y_3.2.1])))
def F56_j4 (n : Nat) (a_Value : Int) (a_Index : Int) (a_Length : Int) (y_3 : Int × Int × Int × Int × Int × Bool) : Bool → Option ((List UInt8) × Int)
  | length => (bif (!y_3.2.2.2.2.2) then (F56_j5 n a_Value a_Index a_Length y_3 length true) else ((F132 n y_3.2.2.1 a_Value).bind fun y_4 => (bif (!y_4) then (F56_j5 n a_Value a_Index a_Length y_3 length true) else ((F132 n y_3.2.2.2.1 a_Index).bind fun y_5 => (bif (!y_5) then (F56_j5 n a_Value a_Index a_Length y_3 length true) else (F56_j5 n a_Value a_Index a_Length y_3 length (!length)))))))
def F56 (n : Nat) (a_Kind : Int) (a_Value : Int) (a_Index : Int) (a_Length : Int) : Option ((List UInt8) × Int) := ((F131 n a_Kind).bind fun y_3 => (bif (a_Length == y_3.2.2.2.2.1) then (F56_j4 n a_Value a_Index a_Length y_3 true) else (bif (decide (y_3.2.2.2.2.1 < (0 : Int))) then ((F132 n (1 : Int) a_Length).bind fun y_6 => (F56_j4 n a_Value a_Index a_Length y_3 y_6)) else (F56_j4 n a_Value a_Index a_Length y_3 false))))
theorem F56_ok (n : Nat) (a_Kind : Int) (a_Value : Int) (a_Index : Int) (a_Length : Int) (r : (List UInt8) × Int) (h : F56 n a_Kind a_Value a_Index a_Length = some r) : PureC Try.prog 56 [(.st (.cons (.int .i64 a_Kind) (.cons (.int .i64 a_Value) (.cons (.int .i64 a_Index) (.int .i64 a_Length)))))] (.tup (.cons (.str r.1) (.cons (.int .i64 r.2) .nil))) [] := by
  refine PureC.mkS Try.func56 rfl rfl ?_
  intro w0 fz0 hfz
  replace h : ((F131 n a_Kind).bind fun y_3 => (bif (a_Length == y_3.2.2.2.2.1) then (F56_j4 n a_Value a_Index a_Length y_3 true) else (bif (decide (y_3.2.2.2.2.1 < (0 : Int))) then ((F132 n (1 : Int) a_Length).bind fun y_6 => (F56_j4 n a_Value a_Index a_Length y_3 y_6)) else (F56_j4 n a_Value a_Index a_Length y_3 false)))) = some r := h
  refine TS.seq ?_
  have hq : (True) ∧ ((True) ∧ ((True) ∧ (True))) := ⟨trivial, ⟨trivial, ⟨trivial, trivial⟩⟩⟩
  refine TS.reg [] ?_ ?_
  · apply prop_of ?_ hq
    kernel_rfl
  refine XS.then ?_
  refine TS.seq ?_
  obtain ⟨y_3, hx1, h⟩ := bind_some' h
  have hq : (True) ∧ ((True) ∧ ((PureC Try.prog 131 [(.int .i64 a_Kind)] (.tup (.cons (.st (.cons (.int .u8 y_3.1) (.cons (.int .u8 y_3.2.1) (.cons (.int .i64 y_3.2.2.1) (.cons (.int .i64 y_3.2.2.2.1) (.int .i64 y_3.2.2.2.2.1)))))) (.cons (.bool y_3.2.2.2.2.2) .nil))) []) ∧ ((True) ∧ ((True) ∧ ((True) ∧ ((True) ∧ ((True) ∧ ((True) ∧ (True))))))))) := ⟨trivial, ⟨trivial, ⟨F131_ok n a_Kind y_3 hx1, ⟨trivial, ⟨trivial, ⟨trivial, ⟨trivial, ⟨trivial, ⟨trivial, trivial⟩⟩⟩⟩⟩⟩⟩⟩⟩
  refine TS.reg [.none, .none, (.call (.tup (.cons (.st (.cons (.int .u8 y_3.1) (.cons (.int .u8 y_3.2.1) (.cons (.int .i64 y_3.2.2.1) (.cons (.int .i64 y_3.2.2.2.1) (.int .i64 y_3.2.2.2.2.1)))))) (.cons (.bool y_3.2.2.2.2.2) .nil))) [])] ?_ ?_
  · apply prop_of ?_ hq
    kernel_rfl
  refine XS.then ?_
  refine TS.seq ?_
  refine TS.cut (D := Bool) (fun d => match d with | length => (mkTs 81 [(1, (.ptr 0 [])), (4, (.ptr 1 [])), (5, (.bool y_3.2.2.2.2.2)), (6, (.bool length))], [(.box 101 (.st (.cons (.int .i64 a_Kind) (.cons (.int .i64 a_Value) (.cons (.int .i64 a_Index) (.int .i64 a_Length)))))), (.box 179 (.st (.cons (.int .u8 y_3.1) (.cons (.int .u8 y_3.2.1) (.cons (.int .i64 y_3.2.2.1) (.cons (.int .i64 y_3.2.2.2.1) (.int .i64 y_3.2.2.2.2.1)))))))])) (fun d => F56_j4 n a_Value a_Index a_Length y_3 d = some r) ?_ ?_
  · rintro length h
    replace h : (bif (!y_3.2.2.2.2.2) then (F56_j5 n a_Value a_Index a_Length y_3 length true) else ((F132 n y_3.2.2.1 a_Value).bind fun y_4 => (bif (!y_4) then (F56_j5 n a_Value a_Index a_Length y_3 length true) else ((F132 n y_3.2.2.2.1 a_Index).bind fun y_5 => (bif (!y_5) then (F56_j5 n a_Value a_Index a_Length y_3 length true) else (F56_j5 n a_Value a_Index a_Length y_3 length (!length))))))) = some r := h
    refine XS.then ?_
    refine TS.seq ?_
    refine TS.seq ?_
    refine TS.cut (D := Bool) (fun d => match d with | x => (mkTs 81 [(1, (.ptr 0 [])), (4, (.ptr 1 [])), (52, (.bool x))], [(.box 101 (.st (.cons (.int .i64 a_Kind) (.cons (.int .i64 a_Value) (.cons (.int .i64 a_Index) (.int .i64 a_Length)))))), (.box 179 (.st (.cons (.int .u8 y_3.1) (.cons (.int .u8 y_3.2.1) (.cons (.int .i64 y_3.2.2.1) (.cons (.int .i64 y_3.2.2.2.1) (.int .i64 y_3.2.2.2.2.1)))))))])) (fun d => F56_j5 n a_Value a_Index a_Length y_3 length d = some r) ?_ ?_
    · rintro x h
      replace h : (bif x then (some (([] : List UInt8), (1 : Int))) else (loopF (F56_l6 n a_Value a_Index a_Length length) n ((0 : Int), [y_3.1, y_3.2.1]))) = some r := h
      refine XS.then ?_
      rcases bif_some h with ⟨c2, h⟩ | ⟨c3, h⟩
      · refine TS.cond x ?_ (fun hcz => ?_) (fun hcz => by rw [c2] at hcz; cases hcz)
        · kernel_rfl
        refine TS.seq ?_
        have hq : (True) ∧ ((True) ∧ (True)) := ⟨trivial, ⟨trivial, trivial⟩⟩
        refine TS.reg [] ?_ ?_
        · apply prop_of ?_ hq
          kernel_rfl
        refine XS.then ?_
        refine TS.ret ?_
        refine XS.passR ?_
        obtain rfl : (([] : List UInt8), (1 : Int)) = r := Option.some.inj h
        exact XS.fin [] ((True) ∧ ((True) ∧ (True))) (by kernel_rfl) ⟨trivial, ⟨trivial, trivial⟩⟩
      · refine TS.cond x ?_ (fun hcz => by rw [c3] at hcz; cases hcz) (fun hcz => ?_)
        · kernel_rfl
        refine TS.skip ?_
        refine XS.then ?_
        refine TS.seq ?_
        have hq : (True) ∧ ((True) ∧ ((True) ∧ ((True) ∧ (((0 < 2 ∧ True) ∧ ((1 < 2 ∧ True) ∧ (True))) ∧ ((True) ∧ (True)))))) := ⟨trivial, ⟨trivial, ⟨trivial, ⟨trivial, ⟨⟨⟨by decide, trivial⟩, ⟨⟨by decide, trivial⟩, trivial⟩⟩, ⟨trivial, trivial⟩⟩⟩⟩⟩⟩
        refine TS.reg [] ?_ ?_
        · apply prop_of ?_ hq
          kernel_rfl
        refine XS.then ?_
        refine TS.seq ?_
        refine TS.seq ?_
        have hq : (True) ∧ ((True) ∧ ((True) ∧ ((True) ∧ ((True) ∧ ((True) ∧ (((0 < 3 ∧ True) ∧ ((1 < 3 ∧ True) ∧ ((2 < 3 ∧ True) ∧ (True)))) ∧ ((True) ∧ ((True) ∧ (True))))))))) := ⟨trivial, ⟨trivial, ⟨trivial, ⟨trivial, ⟨trivial, ⟨trivial, ⟨⟨⟨by decide, trivial⟩, ⟨⟨by decide, trivial⟩, ⟨⟨by decide, trivial⟩, trivial⟩⟩⟩, ⟨trivial, ⟨trivial, trivial⟩⟩⟩⟩⟩⟩⟩⟩⟩
        refine TS.reg [] ?_ ?_
        · apply prop_of ?_ hq
          kernel_rfl
        refine XS.then ?_
        refine TS.block ?_
        refine TS.reLoop [2, 3] (mkMask 81 [7, 64, 65, 66]) (D := Int × (List Int)) (fun d => match d with | (x_2, m0) => (mkTs 81 [(7, (.row 0)), (64, (.row 1)), (65, (.int .i64 (([a_Value, a_Index, a_Length].length : Nat) : Int))), (66, (.int .i64 x_2))], [(.row 5 (.int .u8) m0), (.row 3 (.int .i64) [a_Value, a_Index, a_Length])])) (fun n' d => loopF (F56_l6 n a_Value a_Index a_Length length) n' d = some r) n ((0 : Int), [y_3.1, y_3.2.1]) h ?_ (fun d => loopF_zero _ d r) ?_
        · kernel_rfl
        · rintro n6 ⟨x_2, m0⟩ h
          replace h : (bif (decide (x_2 < (([a_Value, a_Index, a_Length].length : Nat) : Int))) then (bif inb x_2 ([a_Value, a_Index, a_Length].length) then (bif (decide (m0.length + ([(IntKind.wrap .u8 (([a_Value, a_Index, a_Length].getD x_2.toNat (0 : Int)))), (IntKind.wrap .u8 ((shrI .i64 ([a_Value, a_Index, a_Length].getD x_2.toNat (0 : Int)) (8 : Int))))]).length ≤ 17179869184)) then ((loopF (F56_l6 n a_Value a_Index a_Length length) n6) ((IntKind.wrap .i64 (x_2 + (1 : Int))), (m0 ++ [(IntKind.wrap .u8 (([a_Value, a_Index, a_Length].getD x_2.toNat (0 : Int)))), (IntKind.wrap .u8 ((shrI .i64 ([a_Value, a_Index, a_Length].getD x_2.toNat (0 : Int)) (8 : Int))))]))) else none) else none) else (some ((strOf m0), (0 : Int)))) = some r := h
          refine TS.seq ?_
          have hq : (True) ∧ (True) := ⟨trivial, trivial⟩
          refine TS.reg [] ?_ ?_
          · apply prop_of ?_ hq
            kernel_rfl
          refine XS.then ?_
          refine TS.seq ?_
          rcases bif_some h with ⟨c4, h⟩ | ⟨c5, h⟩
          · refine TS.cond (decide (x_2 < (([a_Value, a_Index, a_Length].length : Nat) : Int))) ?_ (fun hcz => ?_) (fun hcz => by rw [c4] at hcz; cases hcz)
            · kernel_rfl
            refine TS.skip ?_
            refine XS.then ?_
            refine TS.seq ?_
            refine TS.block ?_
            refine TS.seq ?_
            obtain ⟨t6, h⟩ := test_some h
            have hq : (inR x_2 ([a_Value, a_Index, a_Length].length)) ∧ ((x_2.toNat < [a_Value, a_Index, a_Length].length ∧ (True)) ∧ ((True) ∧ (True))) := ⟨inb_ok t6, ⟨⟨inR_lt (inb_ok t6), trivial⟩, ⟨trivial, trivial⟩⟩⟩
            refine TS.reg [] ?_ ?_
            · apply prop_of ?_ hq
              kernel_rfl
            refine XS.then ?_
            obtain ⟨t7, h⟩ := test_some h
            have hq : (True) ∧ ((True) ∧ ((True) ∧ ((True) ∧ ((0 ≤ (8 : Int)) ∧ ((True) ∧ (((0 < 2 ∧ True) ∧ ((1 < 2 ∧ True) ∧ (True))) ∧ ((m0.length + ([(IntKind.wrap .u8 (([a_Value, a_Index, a_Length].getD x_2.toNat (0 : Int)))), (IntKind.wrap .u8 ((shrI .i64 ([a_Value, a_Index, a_Length].getD x_2.toNat (0 : Int)) (8 : Int))))]).length ≤ 17179869184) ∧ ((True) ∧ (True))))))))) := ⟨trivial, ⟨trivial, ⟨trivial, ⟨trivial, ⟨by decide, ⟨trivial, ⟨⟨⟨by decide, trivial⟩, ⟨⟨by decide, trivial⟩, trivial⟩⟩, ⟨of_decide_eq_true t7, ⟨trivial, trivial⟩⟩⟩⟩⟩⟩⟩⟩⟩
            refine TS.reg [] ?_ ?_
            · apply prop_of ?_ hq
              kernel_rfl
            refine XS.blockEnd ?_
            refine XS.then ?_
            have hq : (True) ∧ ((True) ∧ (True)) := ⟨trivial, ⟨trivial, trivial⟩⟩
            refine TS.reg [] ?_ ?_
            · apply prop_of ?_ hq
              kernel_rfl
            refine XS.reAny [3, 1] (mkMask 81 [7, 64, 65, 66]) ((IntKind.wrap .i64 (x_2 + (1 : Int))), (m0 ++ [(IntKind.wrap .u8 (([a_Value, a_Index, a_Length].getD x_2.toNat (0 : Int)))), (IntKind.wrap .u8 ((shrI .i64 ([a_Value, a_Index, a_Length].getD x_2.toNat (0 : Int)) (8 : Int))))])) h ?_
            kernel_rfl
          · refine TS.cond (decide (x_2 < (([a_Value, a_Index, a_Length].length : Nat) : Int))) ?_ (fun hcz => by rw [c5] at hcz; cases hcz) (fun hcz => ?_)
            · kernel_rfl
            refine TS.exit ?_
            refine XS.passE ?_
            refine XS.passE ?_
            refine XS.out ?_
            refine XS.then ?_
            refine TS.seq ?_
            have hq : (True) ∧ ((True) ∧ ((True) ∧ ((True) ∧ (True)))) := ⟨trivial, ⟨trivial, ⟨trivial, ⟨trivial, trivial⟩⟩⟩⟩
            refine TS.reg [] ?_ ?_
            · apply prop_of ?_ hq
              kernel_rfl
            refine XS.then ?_
            refine TS.ret ?_
            obtain rfl : ((strOf m0), (0 : Int)) = r := Option.some.inj h
            exact XS.fin [] ((True) ∧ ((True) ∧ (True))) (by kernel_rfl) ⟨trivial, ⟨trivial, trivial⟩⟩
    · rcases bif_some h with ⟨c8, h⟩ | ⟨c9, h⟩
      · have hq : (True) ∧ ((True) ∧ (((True) ∧ (!y_3.2.2.2.2.2) = true) ∧ ((True) ∧ ((True) ∧ ((True) ∧ ((True) ∧ ((True) ∧ (True)))))))) := ⟨trivial, ⟨trivial, ⟨⟨trivial, c8⟩, ⟨trivial, ⟨trivial, ⟨trivial, ⟨trivial, ⟨trivial, trivial⟩⟩⟩⟩⟩⟩⟩⟩
        refine TS.reg [.none, .none, .dec true] ?_ ?_
        · apply prop_of ?_ hq
          kernel_rfl
        refine XS.reAny [0, 1] (mkMask 81 [1, 4, 52]) true h ?_
        kernel_rfl
      · obtain ⟨y_4, hx10, h⟩ := bind_some' h
        rcases bif_some h with ⟨c11, h⟩ | ⟨c12, h⟩
        · have hq : (True) ∧ ((True) ∧ (((True) ∧ (!y_3.2.2.2.2.2) = false) ∧ ((True) ∧ ((True) ∧ ((True) ∧ ((True) ∧ ((PureC Try.prog 132 [(.int .i64 y_3.2.2.1), (.int .i64 a_Value)] (.bool y_4) []) ∧ ((True) ∧ ((True) ∧ (((True) ∧ (!y_4) = true) ∧ ((True) ∧ ((True) ∧ ((True) ∧ (True)))))))))))))) := ⟨trivial, ⟨trivial, ⟨⟨trivial, c9⟩, ⟨trivial, ⟨trivial, ⟨trivial, ⟨trivial, ⟨F132_ok n y_3.2.2.1 a_Value y_4 hx10, ⟨trivial, ⟨trivial, ⟨⟨trivial, c11⟩, ⟨trivial, ⟨trivial, ⟨trivial, trivial⟩⟩⟩⟩⟩⟩⟩⟩⟩⟩⟩⟩⟩⟩
          refine TS.reg [.none, .none, .dec false, .none, .none, .none, .none, (.call (.bool y_4) []), .none, .none, .dec true] ?_ ?_
          · apply prop_of ?_ hq
            kernel_rfl
          refine XS.reAny [0, 1] (mkMask 81 [1, 4, 52]) true h ?_
          kernel_rfl
        · obtain ⟨y_5, hx13, h⟩ := bind_some' h
          rcases bif_some h with ⟨c14, h⟩ | ⟨c15, h⟩
          · have hq : (True) ∧ ((True) ∧ (((True) ∧ (!y_3.2.2.2.2.2) = false) ∧ ((True) ∧ ((True) ∧ ((True) ∧ ((True) ∧ ((PureC Try.prog 132 [(.int .i64 y_3.2.2.1), (.int .i64 a_Value)] (.bool y_4) []) ∧ ((True) ∧ ((True) ∧ (((True) ∧ (!y_4) = false) ∧ ((True) ∧ ((True) ∧ ((True) ∧ ((True) ∧ ((PureC Try.prog 132 [(.int .i64 y_3.2.2.2.1), (.int .i64 a_Index)] (.bool y_5) []) ∧ ((True) ∧ ((True) ∧ (((True) ∧ (!y_5) = true) ∧ ((True) ∧ (True)))))))))))))))))))) := ⟨trivial, ⟨trivial, ⟨⟨trivial, c9⟩, ⟨trivial, ⟨trivial, ⟨trivial, ⟨trivial, ⟨F132_ok n y_3.2.2.1 a_Value y_4 hx10, ⟨trivial, ⟨trivial, ⟨⟨trivial, c12⟩, ⟨trivial, ⟨trivial, ⟨trivial, ⟨trivial, ⟨F132_ok n y_3.2.2.2.1 a_Index y_5 hx13, ⟨trivial, ⟨trivial, ⟨⟨trivial, c14⟩, ⟨trivial, trivial⟩⟩⟩⟩⟩⟩⟩⟩⟩⟩⟩⟩⟩⟩⟩⟩⟩⟩⟩⟩
            refine TS.reg [.none, .none, .dec false, .none, .none, .none, .none, (.call (.bool y_4) []), .none, .none, .dec false, .none, .none, .none, .none, (.call (.bool y_5) []), .none, .none, .dec true] ?_ ?_
            · apply prop_of ?_ hq
              kernel_rfl
            refine XS.reAny [0, 1] (mkMask 81 [1, 4, 52]) true h ?_
            kernel_rfl
          · have hq : (True) ∧ ((True) ∧ (((True) ∧ (!y_3.2.2.2.2.2) = false) ∧ ((True) ∧ ((True) ∧ ((True) ∧ ((True) ∧ ((PureC Try.prog 132 [(.int .i64 y_3.2.2.1), (.int .i64 a_Value)] (.bool y_4) []) ∧ ((True) ∧ ((True) ∧ (((True) ∧ (!y_4) = false) ∧ ((True) ∧ ((True) ∧ ((True) ∧ ((True) ∧ ((PureC Try.prog 132 [(.int .i64 y_3.2.2.2.1), (.int .i64 a_Index)] (.bool y_5) []) ∧ ((True) ∧ ((True) ∧ (((True) ∧ (!y_5) = false) ∧ ((True) ∧ ((True) ∧ ((True) ∧ (True)))))))))))))))))))))) := ⟨trivial, ⟨trivial, ⟨⟨trivial, c9⟩, ⟨trivial, ⟨trivial, ⟨trivial, ⟨trivial, ⟨F132_ok n y_3.2.2.1 a_Value y_4 hx10, ⟨trivial, ⟨trivial, ⟨⟨trivial, c12⟩, ⟨trivial, ⟨trivial, ⟨trivial, ⟨trivial, ⟨F132_ok n y_3.2.2.2.1 a_Index y_5 hx13, ⟨trivial, ⟨trivial, ⟨⟨trivial, c15⟩, ⟨trivial, ⟨trivial, ⟨trivial, trivial⟩⟩⟩⟩⟩⟩⟩⟩⟩⟩⟩⟩⟩⟩⟩⟩⟩⟩⟩⟩⟩⟩
            refine TS.reg [.none, .none, .dec false, .none, .none, .none, .none, (.call (.bool y_4) []), .none, .none, .dec false, .none, .none, .none, .none, (.call (.bool y_5) []), .none, .none, .dec false] ?_ ?_
            · apply prop_of ?_ hq
              kernel_rfl
            refine XS.reAny [0, 1] (mkMask 81 [1, 4, 52]) (!length) h ?_
            kernel_rfl
  · rcases bif_some h with ⟨c16, h⟩ | ⟨c17, h⟩
    · have hq : (True) ∧ ((True) ∧ ((True) ∧ ((True) ∧ ((True) ∧ (((True) ∧ (a_Length == y_3.2.2.2.2.1) = true) ∧ ((True) ∧ ((True) ∧ (True)))))))) := ⟨trivial, ⟨trivial, ⟨trivial, ⟨trivial, ⟨trivial, ⟨⟨trivial, c16⟩, ⟨trivial, ⟨trivial, trivial⟩⟩⟩⟩⟩⟩⟩⟩
      refine TS.reg [.none, .none, .none, .none, .none, .dec true] ?_ ?_
      · apply prop_of ?_ hq
        kernel_rfl
      refine XS.reAny [0, 1] (mkMask 81 [1, 4, 5, 6]) true h ?_
      kernel_rfl
    · rcases bif_some h with ⟨c18, h⟩ | ⟨c19, h⟩
      · obtain ⟨y_6, hx20, h⟩ := bind_some' h
        have hq : (True) ∧ ((True) ∧ ((True) ∧ ((True) ∧ ((True) ∧ (((True) ∧ (a_Length == y_3.2.2.2.2.1) = false) ∧ ((True) ∧ ((True) ∧ ((True) ∧ (((True) ∧ (decide (y_3.2.2.2.2.1 < (0 : Int))) = true) ∧ ((True) ∧ ((True) ∧ ((PureC Try.prog 132 [(.int .i64 (1 : Int)), (.int .i64 a_Length)] (.bool y_6) []) ∧ ((True) ∧ ((True) ∧ ((True) ∧ (True)))))))))))))))) := ⟨trivial, ⟨trivial, ⟨trivial, ⟨trivial, ⟨trivial, ⟨⟨trivial, c17⟩, ⟨trivial, ⟨trivial, ⟨trivial, ⟨⟨trivial, c18⟩, ⟨trivial, ⟨trivial, ⟨F132_ok n (1 : Int) a_Length y_6 hx20, ⟨trivial, ⟨trivial, ⟨trivial, trivial⟩⟩⟩⟩⟩⟩⟩⟩⟩⟩⟩⟩⟩⟩⟩⟩
        refine TS.reg [.none, .none, .none, .none, .none, .dec false, .none, .none, .none, .dec true, .none, .none, (.call (.bool y_6) [])] ?_ ?_
        · apply prop_of ?_ hq
          kernel_rfl
        refine XS.reAny [0, 1] (mkMask 81 [1, 4, 5, 6]) y_6 h ?_
        kernel_rfl
      · have hq : (True) ∧ ((True) ∧ ((True) ∧ ((True) ∧ ((True) ∧ (((True) ∧ (a_Length == y_3.2.2.2.2.1) = false) ∧ ((True) ∧ ((True) ∧ ((True) ∧ (((True) ∧ (decide (y_3.2.2.2.2.1 < (0 : Int))) = false) ∧ ((True) ∧ ((True) ∧ ((True) ∧ (True))))))))))))) := ⟨trivial, ⟨trivial, ⟨trivial, ⟨trivial, ⟨trivial, ⟨⟨trivial, c17⟩, ⟨trivial, ⟨trivial, ⟨trivial, ⟨⟨trivial, c19⟩, ⟨trivial, ⟨trivial, ⟨trivial, trivial⟩⟩⟩⟩⟩⟩⟩⟩⟩⟩⟩⟩⟩
        refine TS.reg [.none, .none, .none, .none, .none, .dec false, .none, .none, .none, .dec false] ?_ ?_
        · apply prop_of ?_ hq
          kernel_rfl
        refine XS.reAny [0, 1] (mkMask 81 [1, 4, 5, 6]) false h ?_
        kernel_rfl

/-! plugtree/setup.Read -/
def F89_l2 (n : Nat) (s : List UInt8) (k89_2 : Int → Option (Int × Int × Int × Int × Int)) : Int → Option (Int × Int × Int × Int × Int)
  | kind => (bif (decide (kind ≤ (14 : Int))) then ((F152 n (2 : Int) s).bind fun y_6 => ((F152 n (4 : Int) s).bind fun y_7 => ((F152 n (6 : Int) s).bind fun y_8 => ((F56 n kind y_6 y_7 y_8).bind fun y_9 => (bif (y_9.2 == (0 : Int)) then (bif (y_9.1 == s) then (some (kind, y_6, y_7, y_8, (0 : Int))) else (k89_2 (IntKind.wrap .i64 (kind + (1 : Int))))) else (k89_2 (IntKind.wrap .i64 (kind + (1 : Int))))))))) else (some ((0 : Int), (0 : Int), (0 : Int), (0 : Int), (12 : Int))))
def F89 (n : Nat) (s : List UInt8) : Option (Int × Int × Int × Int × Int) := (bif (decide (((s.length : Nat) : Int) < (8 : Int))) then (some ((0 : Int), (0 : Int), (0 : Int), (0 : Int), (3 : Int))) else (bif (decide (((s.length : Nat) : Int) > (8 : Int))) then (some ((0 : Int), (0 : Int), (0 : Int), (0 : Int), (4 : Int))) else (loopF (F89_l2 n s) n (1 : Int))))
theorem F89_ok (n : Nat) (s : List UInt8) (r : Int × Int × Int × Int × Int) (h : F89 n s = some r) : PureC Try.prog 89 [(.str s)] (.tup (.cons (.st (.cons (.int .i64 r.1) (.cons (.int .i64 r.2.1) (.cons (.int .i64 r.2.2.1) (.int .i64 r.2.2.2.1))))) (.cons (.int .i64 r.2.2.2.2) .nil))) [] := by
  refine PureC.mkS Try.func89 rfl rfl ?_
  intro w0 fz0 hfz
  replace h : (bif (decide (((s.length : Nat) : Int) < (8 : Int))) then (some ((0 : Int), (0 : Int), (0 : Int), (0 : Int), (3 : Int))) else (bif (decide (((s.length : Nat) : Int) > (8 : Int))) then (some ((0 : Int), (0 : Int), (0 : Int), (0 : Int), (4 : Int))) else (loopF (F89_l2 n s) n (1 : Int)))) = some r := h
  refine TS.seq ?_
  have hq : (True) ∧ ((True) ∧ ((True) ∧ (True))) := ⟨trivial, ⟨trivial, ⟨trivial, trivial⟩⟩⟩
  refine TS.reg [] ?_ ?_
  · apply prop_of ?_ hq
    kernel_rfl
  refine XS.then ?_
  refine TS.seq ?_
  refine TS.block ?_
  refine TS.seq ?_
  have hq : (True) ∧ ((True) ∧ ((True) ∧ ((True) ∧ (True)))) := ⟨trivial, ⟨trivial, ⟨trivial, ⟨trivial, trivial⟩⟩⟩⟩
  refine TS.reg [] ?_ ?_
  · apply prop_of ?_ hq
    kernel_rfl
  refine XS.then ?_
  rcases bif_some h with ⟨c1, h⟩ | ⟨c2, h⟩
  · refine TS.cond (decide (((s.length : Nat) : Int) < (8 : Int))) ?_ (fun hcz => ?_) (fun hcz => by rw [c1] at hcz; cases hcz)
    · kernel_rfl
    refine TS.seq ?_
    have hq : (True) ∧ ((True) ∧ ((True) ∧ (True))) := ⟨trivial, ⟨trivial, ⟨trivial, trivial⟩⟩⟩
    refine TS.reg [] ?_ ?_
    · apply prop_of ?_ hq
      kernel_rfl
    refine XS.then ?_
    refine TS.ret ?_
    refine XS.blockRet ?_
    refine XS.passR ?_
    obtain rfl : ((0 : Int), (0 : Int), (0 : Int), (0 : Int), (3 : Int)) = r := Option.some.inj h
    exact XS.fin [] ((True) ∧ ((True) ∧ (True))) (by kernel_rfl) ⟨trivial, ⟨trivial, trivial⟩⟩
  · refine TS.cond (decide (((s.length : Nat) : Int) < (8 : Int))) ?_ (fun hcz => by rw [c2] at hcz; cases hcz) (fun hcz => ?_)
    · kernel_rfl
    refine TS.seq ?_
    have hq : (True) ∧ ((True) ∧ ((True) ∧ ((True) ∧ (True)))) := ⟨trivial, ⟨trivial, ⟨trivial, ⟨trivial, trivial⟩⟩⟩⟩
    refine TS.reg [] ?_ ?_
    · apply prop_of ?_ hq
      kernel_rfl
    refine XS.then ?_
    rcases bif_some h with ⟨c3, h⟩ | ⟨c4, h⟩
    · refine TS.cond (decide (((s.length : Nat) : Int) > (8 : Int))) ?_ (fun hcz => ?_) (fun hcz => by rw [c3] at hcz; cases hcz)
      · kernel_rfl
      refine TS.seq ?_
      have hq : (True) ∧ ((True) ∧ ((True) ∧ (True))) := ⟨trivial, ⟨trivial, ⟨trivial, trivial⟩⟩⟩
      refine TS.reg [] ?_ ?_
      · apply prop_of ?_ hq
        kernel_rfl
      refine XS.then ?_
      refine TS.ret ?_
      refine XS.blockRet ?_
      refine XS.passR ?_
      obtain rfl : ((0 : Int), (0 : Int), (0 : Int), (0 : Int), (4 : Int)) = r := Option.some.inj h
      exact XS.fin [] ((True) ∧ ((True) ∧ (True))) (by kernel_rfl) ⟨trivial, ⟨trivial, trivial⟩⟩
    · refine TS.cond (decide (((s.length : Nat) : Int) > (8 : Int))) ?_ (fun hcz => by rw [c4] at hcz; cases hcz) (fun hcz => ?_)
      · kernel_rfl
      refine TS.skip ?_
      refine XS.blockEnd ?_
      refine XS.then ?_
      refine TS.seq ?_
      have hq : (True) ∧ ((True) ∧ (True)) := ⟨trivial, ⟨trivial, trivial⟩⟩
      refine TS.reg [] ?_ ?_
      · apply prop_of ?_ hq
        kernel_rfl
      refine XS.then ?_
      refine TS.seq ?_
      refine TS.seq ?_
      have hq : (True) ∧ (True) := ⟨trivial, trivial⟩
      refine TS.reg [] ?_ ?_
      · apply prop_of ?_ hq
        kernel_rfl
      refine XS.then ?_
      refine TS.block ?_
      refine TS.reLoop [0, 1] (mkMask 46 [1, 2, 4, 5]) (D := Int) (fun d => match d with | kind => (mkTs 46 [(1, (.ptr 0 [])), (2, (.ptr 1 [])), (4, (.fn 152 (.cons (.ptr 0 []) .nil))), (5, (.int .i64 kind))], [(.box 9 (.str s)), (.box 101 (.st (.cons (.int .i64 (0 : Int)) (.cons (.int .i64 (0 : Int)) (.cons (.int .i64 (0 : Int)) (.int .i64 (0 : Int)))))))])) (fun n' d => loopF (F89_l2 n s) n' d = some r) n (1 : Int) h ?_ (fun d => loopF_zero _ d r) ?_
      · kernel_rfl
      · rintro n2 kind h
        replace h : (bif (decide (kind ≤ (14 : Int))) then ((F152 n (2 : Int) s).bind fun y_6 => ((F152 n (4 : Int) s).bind fun y_7 => ((F152 n (6 : Int) s).bind fun y_8 => ((F56 n kind y_6 y_7 y_8).bind fun y_9 => (bif (y_9.2 == (0 : Int)) then (bif (y_9.1 == s) then (some (kind, y_6, y_7, y_8, (0 : Int))) else ((loopF (F89_l2 n s) n2) (IntKind.wrap .i64 (kind + (1 : Int))))) else ((loopF (F89_l2 n s) n2) (IntKind.wrap .i64 (kind + (1 : Int))))))))) else (some ((0 : Int), (0 : Int), (0 : Int), (0 : Int), (12 : Int)))) = some r := h
        refine TS.seq ?_
        refine TS.seq ?_
        have hq : (True) ∧ ((True) ∧ (True)) := ⟨trivial, ⟨trivial, trivial⟩⟩
        refine TS.reg [] ?_ ?_
        · apply prop_of ?_ hq
          kernel_rfl
        refine XS.then ?_
        rcases bif_some h with ⟨c5, h⟩ | ⟨c6, h⟩
        · refine TS.cond (decide (kind ≤ (14 : Int))) ?_ (fun hcz => ?_) (fun hcz => by rw [c5] at hcz; cases hcz)
          · kernel_rfl
          refine TS.skip ?_
          refine XS.then ?_
          refine TS.seq ?_
          refine TS.block ?_
          refine TS.seq ?_
          obtain ⟨y_6, hx7, h⟩ := bind_some' h
          obtain ⟨y_7, hx8, h⟩ := bind_some' h
          obtain ⟨y_8, hx9, h⟩ := bind_some' h
          have hq : (True) ∧ ((True) ∧ ((((True) ∧ ((True) ∧ (True))) ∧ PureC Try.prog 152 [(.int .i64 (2 : Int)), (.pv (.str s))] (.int .i64 y_6) []) ∧ ((True) ∧ ((((True) ∧ ((True) ∧ (True))) ∧ PureC Try.prog 152 [(.int .i64 (4 : Int)), (.pv (.str s))] (.int .i64 y_7) []) ∧ ((True) ∧ ((((True) ∧ ((True) ∧ (True))) ∧ PureC Try.prog 152 [(.int .i64 (6 : Int)), (.pv (.str s))] (.int .i64 y_8) []) ∧ (((True) ∧ ((True) ∧ ((True) ∧ ((True) ∧ (True))))) ∧ ((True) ∧ ((True) ∧ (True)))))))))) := ⟨trivial, ⟨trivial, ⟨⟨⟨trivial, ⟨trivial, trivial⟩⟩, F152_ok n (2 : Int) s y_6 hx7⟩, ⟨trivial, ⟨⟨⟨trivial, ⟨trivial, trivial⟩⟩, F152_ok n (4 : Int) s y_7 hx8⟩, ⟨trivial, ⟨⟨⟨trivial, ⟨trivial, trivial⟩⟩, F152_ok n (6 : Int) s y_8 hx9⟩, ⟨⟨trivial, ⟨trivial, ⟨trivial, ⟨trivial, trivial⟩⟩⟩⟩, ⟨trivial, ⟨trivial, trivial⟩⟩⟩⟩⟩⟩⟩⟩⟩⟩
          refine TS.reg [.none, .none, (.call (.int .i64 y_6) []), .none, (.call (.int .i64 y_7) []), .none, (.call (.int .i64 y_8) [])] ?_ ?_
          · apply prop_of ?_ hq
            kernel_rfl
          refine XS.then ?_
          refine TS.seq ?_
          obtain ⟨y_9, hx10, h⟩ := bind_some' h
          have hq : (True) ∧ ((PureC Try.prog 56 [(.st (.cons (.int .i64 kind) (.cons (.int .i64 y_6) (.cons (.int .i64 y_7) (.int .i64 y_8)))))] (.tup (.cons (.str y_9.1) (.cons (.int .i64 y_9.2) .nil))) []) ∧ ((True) ∧ ((True) ∧ ((True) ∧ ((True) ∧ ((True) ∧ (True))))))) := ⟨trivial, ⟨F56_ok n kind y_6 y_7 y_8 y_9 hx10, ⟨trivial, ⟨trivial, ⟨trivial, ⟨trivial, ⟨trivial, trivial⟩⟩⟩⟩⟩⟩⟩
          refine TS.reg [.none, (.call (.tup (.cons (.str y_9.1) (.cons (.int .i64 y_9.2) .nil))) [])] ?_ ?_
          · apply prop_of ?_ hq
            kernel_rfl
          refine XS.then ?_
          refine TS.seq ?_
          rcases bif_some h with ⟨c11, h⟩ | ⟨c12, h⟩
          · have hq : (True) ∧ ((True) ∧ (((True) ∧ (y_9.2 == (0 : Int)) = true) ∧ ((True) ∧ ((True) ∧ ((True) ∧ ((True) ∧ (True))))))) := ⟨trivial, ⟨trivial, ⟨⟨trivial, c11⟩, ⟨trivial, ⟨trivial, ⟨trivial, ⟨trivial, trivial⟩⟩⟩⟩⟩⟩⟩
            refine TS.reg [.none, .none, .dec true] ?_ ?_
            · apply prop_of ?_ hq
              kernel_rfl
            refine XS.then ?_
            rcases bif_some h with ⟨c13, h⟩ | ⟨c14, h⟩
            · refine TS.cond (y_9.1 == s) ?_ (fun hcz => ?_) (fun hcz => by rw [c13] at hcz; cases hcz)
              · kernel_rfl
              refine TS.seq ?_
              have hq : (True) ∧ ((True) ∧ ((True) ∧ (True))) := ⟨trivial, ⟨trivial, ⟨trivial, trivial⟩⟩⟩
              refine TS.reg [] ?_ ?_
              · apply prop_of ?_ hq
                kernel_rfl
              refine XS.then ?_
              refine TS.ret ?_
              refine XS.blockRet ?_
              refine XS.passR ?_
              refine XS.passR ?_
              refine XS.blockRet ?_
              refine XS.passR ?_
              obtain rfl : (kind, y_6, y_7, y_8, (0 : Int)) = r := Option.some.inj h
              exact XS.fin [] ((True) ∧ ((True) ∧ (True))) (by kernel_rfl) ⟨trivial, ⟨trivial, trivial⟩⟩
            · refine TS.cond (y_9.1 == s) ?_ (fun hcz => by rw [c14] at hcz; cases hcz) (fun hcz => ?_)
              · kernel_rfl
              refine TS.skip ?_
              refine XS.blockEnd ?_
              refine XS.then ?_
              have hq : (True) ∧ ((True) ∧ ((True) ∧ (True))) := ⟨trivial, ⟨trivial, ⟨trivial, trivial⟩⟩⟩
              refine TS.reg [] ?_ ?_
              · apply prop_of ?_ hq
                kernel_rfl
              refine XS.reAny [0, 1] (mkMask 46 [1, 2, 4, 5]) (IntKind.wrap .i64 (kind + (1 : Int))) h ?_
              kernel_rfl
          · have hq : (True) ∧ ((True) ∧ (((True) ∧ (y_9.2 == (0 : Int)) = false) ∧ ((True) ∧ (True)))) := ⟨trivial, ⟨trivial, ⟨⟨trivial, c12⟩, ⟨trivial, trivial⟩⟩⟩⟩
            refine TS.reg [.none, .none, .dec false] ?_ ?_
            · apply prop_of ?_ hq
              kernel_rfl
            refine XS.then ?_
            refine TS.no ?_ ?_
            · kernel_rfl
            refine TS.skip ?_
            refine XS.blockEnd ?_
            refine XS.then ?_
            have hq : (True) ∧ ((True) ∧ ((True) ∧ (True))) := ⟨trivial, ⟨trivial, ⟨trivial, trivial⟩⟩⟩
            refine TS.reg [] ?_ ?_
            · apply prop_of ?_ hq
              kernel_rfl
            refine XS.reAny [0, 1] (mkMask 46 [1, 2, 4, 5]) (IntKind.wrap .i64 (kind + (1 : Int))) h ?_
            kernel_rfl
        · refine TS.cond (decide (kind ≤ (14 : Int))) ?_ (fun hcz => by rw [c6] at hcz; cases hcz) (fun hcz => ?_)
          · kernel_rfl
          refine TS.exit ?_
          refine XS.passE ?_
          refine XS.passE ?_
          refine XS.out ?_
          refine XS.then ?_
          refine TS.seq ?_
          have hq : (True) ∧ ((True) ∧ ((True) ∧ (True))) := ⟨trivial, ⟨trivial, ⟨trivial, trivial⟩⟩⟩
          refine TS.reg [] ?_ ?_
          · apply prop_of ?_ hq
            kernel_rfl
          refine XS.then ?_
          refine TS.ret ?_
          obtain rfl : ((0 : Int), (0 : Int), (0 : Int), (0 : Int), (12 : Int)) = r := Option.some.inj h
          exact XS.fin [] ((True) ∧ ((True) ∧ (True))) (by kernel_rfl) ⟨trivial, ⟨trivial, trivial⟩⟩

/-! plugtree/hub.Control -/
def F33_j4 (n : Nat) (h_Count : Int) (h_Ports : List (Int × Int)) : (Int × (List (Int × Int))) → Option (Int × (List (Int × Int)) × (List UInt8) × Int)
  | (e, m2) => (bif (e != (0 : Int)) then (some (h_Count, h_Ports, ([] : List UInt8), e)) else (some (h_Count, m2, ([] : List UInt8), (0 : Int))))
def F33_j3 (n : Nat) (h_Count : Int) (h_Ports : List (Int × Int)) (y_6 : Int × Int × Int × Int × Int) : Bool → Option (Int × (List (Int × Int)) × (List UInt8) × Int)
  | x => (bif x then (some (h_Count, h_Ports, ([] : List UInt8), (12 : Int))) else (bif (decide (y_6.2.2.1 > h_Count)) then (some (h_Count, h_Ports, ([] : List UInt8), (8 : Int))) else (bif inb y_6.2.2.1 16 then (bif (y_6.1 == (8 : Int)) then (some (h_Count, h_Ports, (strOf [(IntKind.wrap .u8 ((h_Ports.getD y_6.2.2.1.toNat ((0 : Int), (0 : Int))).1)), (IntKind.wrap .u8 ((shrI .i64 ((h_Ports.getD y_6.2.2.1.toNat ((0 : Int), (0 : Int))).1) (8 : Int)))), (IntKind.wrap .u8 ((h_Ports.getD y_6.2.2.1.toNat ((0 : Int), (0 : Int))).2)), (IntKind.wrap .u8 ((shrI .i64 ((h_Ports.getD y_6.2.2.1.toNat ((0 : Int), (0 : Int))).2) (8 : Int))))]), (0 : Int))) else (bif (y_6.1 == (9 : Int)) then (bif (y_6.2.1 == (8 : Int)) then (F33_j4 n h_Count h_Ports ((0 : Int), (h_Ports.set y_6.2.2.1.toNat ((bitsI .or .i64 ((h_Ports.getD y_6.2.2.1.toNat ((0 : Int), (0 : Int))).1) (256 : Int)), (h_Ports.getD y_6.2.2.1.toNat ((0 : Int), (0 : Int))).2)))) else (bif (y_6.2.1 == (4 : Int)) then (bif ((bitsI .and .i64 ((h_Ports.getD y_6.2.2.1.toNat ((0 : Int), (0 : Int))).1) (1 : Int)) != (0 : Int)) then (F33_j4 n h_Count h_Ports ((0 : Int), (h_Ports.set y_6.2.2.1.toNat ((bitsI .or .i64 (bitsI .andNot .i64 ((h_Ports.getD y_6.2.2.1.toNat ((0 : Int), (0 : Int))).1) (2 : Int)) (16 : Int)), (h_Ports.getD y_6.2.2.1.toNat ((0 : Int), (0 : Int))).2)))) else (F33_j4 n h_Count h_Ports ((8 : Int), h_Ports))) else (F33_j4 n h_Count h_Ports ((8 : Int), h_Ports)))) else (bif (y_6.2.1 == (1 : Int)) then (F33_j4 n h_Count h_Ports ((0 : Int), (h_Ports.set y_6.2.2.1.toNat ((bitsI .andNot .i64 ((h_Ports.getD y_6.2.2.1.toNat ((0 : Int), (0 : Int))).1) (2 : Int)), (h_Ports.getD y_6.2.2.1.toNat ((0 : Int), (0 : Int))).2)))) else (bif (y_6.2.1 == (8 : Int)) then (F33_j4 n h_Count h_Ports ((0 : Int), (h_Ports.set y_6.2.2.1.toNat ((0 : Int), (h_Ports.getD y_6.2.2.1.toNat ((0 : Int), (0 : Int))).2)))) else (bif (y_6.2.1 == (16 : Int)) then (F33_j4 n h_Count h_Ports ((0 : Int), (h_Ports.set y_6.2.2.1.toNat ((h_Ports.getD y_6.2.2.1.toNat ((0 : Int), (0 : Int))).1, (bitsI .andNot .i64 ((h_Ports.getD y_6.2.2.1.toNat ((0 : Int), (0 : Int))).2) (1 : Int)))))) else (bif (y_6.2.1 == (17 : Int)) then (F33_j4 n h_Count h_Ports ((0 : Int), (h_Ports.set y_6.2.2.1.toNat ((h_Ports.getD y_6.2.2.1.toNat ((0 : Int), (0 : Int))).1, (bitsI .andNot .i64 ((h_Ports.getD y_6.2.2.1.toNat ((0 : Int), (0 : Int))).2) (2 : Int)))))) else (bif (y_6.2.1 == (20 : Int)) then (F33_j4 n h_Count h_Ports ((0 : Int), (h_Ports.set y_6.2.2.1.toNat ((h_Ports.getD y_6.2.2.1.toNat ((0 : Int), (0 : Int))).1, (bitsI .andNot .i64 ((h_Ports.getD y_6.2.2.1.toNat ((0 : Int), (0 : Int))).2) (16 : Int)))))) else (F33_j4 n h_Count h_Ports ((8 : Int), h_Ports))))))))) else none)))
def F33 (n : Nat) (h_Count : Int) (h_Ports : List (Int × Int)) (ask : List UInt8) : Option (Int × (List (Int × Int)) × (List UInt8) × Int) := ((F88 n h_Count h_Ports).bind fun y_5 => (bif (y_5 != (0 : Int)) then (some (h_Count, h_Ports, ([] : List UInt8), y_5)) else ((F89 n ask).bind fun y_6 => (bif (y_6.2.2.2.2 != (0 : Int)) then (some (h_Count, h_Ports, ([] : List UInt8), (8 : Int))) else (bif (y_6.1 != (8 : Int)) then (bif (y_6.1 != (9 : Int)) then (F33_j3 n h_Count h_Ports y_6 (y_6.1 != (10 : Int))) else (F33_j3 n h_Count h_Ports y_6 false)) else (F33_j3 n h_Count h_Ports y_6 false))))))
theorem F33_ok (n : Nat) (h_Count : Int) (h_Ports : List (Int × Int)) (ask : List UInt8) (r : Int × (List (Int × Int)) × (List UInt8) × Int) (h : F33 n h_Count h_Ports ask = some r) : PureC Try.prog 33 [(.st (.cons (.int .i64 h_Count) (.arr 16 (.st (.pair (.int .i64) (.int .i64))) h_Ports))), (.str ask)] (.tup (.cons (.st (.cons (.int .i64 r.1) (.arr 16 (.st (.pair (.int .i64) (.int .i64))) r.2.1))) (.cons (.str r.2.2.1) (.cons (.int .i64 r.2.2.2) .nil)))) [] := by
  refine PureC.mkS Try.func33 rfl rfl ?_
  intro w0 fz0 hfz
  replace h : ((F88 n h_Count h_Ports).bind fun y_5 => (bif (y_5 != (0 : Int)) then (some (h_Count, h_Ports, ([] : List UInt8), y_5)) else ((F89 n ask).bind fun y_6 => (bif (y_6.2.2.2.2 != (0 : Int)) then (some (h_Count, h_Ports, ([] : List UInt8), (8 : Int))) else (bif (y_6.1 != (8 : Int)) then (bif (y_6.1 != (9 : Int)) then (F33_j3 n h_Count h_Ports y_6 (y_6.1 != (10 : Int))) else (F33_j3 n h_Count h_Ports y_6 false)) else (F33_j3 n h_Count h_Ports y_6 false)))))) = some r := h
  refine TS.seq ?_
  have hq : (True) ∧ ((True) ∧ ((True) ∧ ((True) ∧ (True)))) := ⟨trivial, ⟨trivial, ⟨trivial, ⟨trivial, trivial⟩⟩⟩⟩
  refine TS.reg [] ?_ ?_
  · apply prop_of ?_ hq
    kernel_rfl
  refine XS.then ?_
  refine TS.seq ?_
  refine TS.seq ?_
  obtain ⟨y_5, hx1, h⟩ := bind_some' h
  have hq : (True) ∧ ((PureC Try.prog 88 [(.st (.cons (.int .i64 h_Count) (.arr 16 (.st (.pair (.int .i64) (.int .i64))) h_Ports)))] (.int .i64 y_5) []) ∧ ((True) ∧ (True))) := ⟨trivial, ⟨F88_ok n h_Count h_Ports y_5 hx1, ⟨trivial, trivial⟩⟩⟩
  refine TS.reg [.none, (.call (.int .i64 y_5) [])] ?_ ?_
  · apply prop_of ?_ hq
    kernel_rfl
  refine XS.then ?_
  refine TS.seq ?_
  have hq : (True) ∧ ((True) ∧ (True)) := ⟨trivial, ⟨trivial, trivial⟩⟩
  refine TS.reg [] ?_ ?_
  · apply prop_of ?_ hq
    kernel_rfl
  refine XS.then ?_
  rcases bif_some h with ⟨c2, h⟩ | ⟨c3, h⟩
  · refine TS.cond (y_5 != (0 : Int)) ?_ (fun hcz => ?_) (fun hcz => by rw [c2] at hcz; cases hcz)
    · kernel_rfl
    refine TS.seq ?_
    have hq : (True) ∧ ((True) ∧ ((True) ∧ ((True) ∧ ((True) ∧ (True))))) := ⟨trivial, ⟨trivial, ⟨trivial, ⟨trivial, ⟨trivial, trivial⟩⟩⟩⟩⟩
    refine TS.reg [] ?_ ?_
    · apply prop_of ?_ hq
      kernel_rfl
    refine XS.then ?_
    refine TS.ret ?_
    refine XS.passR ?_
    obtain rfl : (h_Count, h_Ports, ([] : List UInt8), y_5) = r := Option.some.inj h
    exact XS.fin [] ((True) ∧ ((True) ∧ ((True) ∧ (True)))) (by kernel_rfl) ⟨trivial, ⟨trivial, ⟨trivial, trivial⟩⟩⟩
  · refine TS.cond (y_5 != (0 : Int)) ?_ (fun hcz => by rw [c3] at hcz; cases hcz) (fun hcz => ?_)
    · kernel_rfl
    refine TS.skip ?_
    refine XS.then ?_
    refine TS.seq ?_
    obtain ⟨y_6, hx4, h⟩ := bind_some' h
    have hq : (True) ∧ ((PureC Try.prog 89 [(.str ask)] (.tup (.cons (.st (.cons (.int .i64 y_6.1) (.cons (.int .i64 y_6.2.1) (.cons (.int .i64 y_6.2.2.1) (.int .i64 y_6.2.2.2.1))))) (.cons (.int .i64 y_6.2.2.2.2) .nil))) []) ∧ ((True) ∧ ((True) ∧ ((True) ∧ ((True) ∧ ((True) ∧ ((True) ∧ (True)))))))) := ⟨trivial, ⟨F89_ok n ask y_6 hx4, ⟨trivial, ⟨trivial, ⟨trivial, ⟨trivial, ⟨trivial, ⟨trivial, trivial⟩⟩⟩⟩⟩⟩⟩⟩
    refine TS.reg [.none, (.call (.tup (.cons (.st (.cons (.int .i64 y_6.1) (.cons (.int .i64 y_6.2.1) (.cons (.int .i64 y_6.2.2.1) (.int .i64 y_6.2.2.2.1))))) (.cons (.int .i64 y_6.2.2.2.2) .nil))) [])] ?_ ?_
    · apply prop_of ?_ hq
      kernel_rfl
    refine XS.then ?_
    refine TS.seq ?_
    refine TS.block ?_
    refine TS.seq ?_
    have hq : (True) ∧ ((True) ∧ ((True) ∧ (True))) := ⟨trivial, ⟨trivial, ⟨trivial, trivial⟩⟩⟩
    refine TS.reg [] ?_ ?_
    · apply prop_of ?_ hq
      kernel_rfl
    refine XS.then ?_
    rcases bif_some h with ⟨c5, h⟩ | ⟨c6, h⟩
    · refine TS.cond (y_6.2.2.2.2 != (0 : Int)) ?_ (fun hcz => ?_) (fun hcz => by rw [c5] at hcz; cases hcz)
      · kernel_rfl
      refine TS.seq ?_
      have hq : (True) ∧ ((True) ∧ ((True) ∧ ((True) ∧ (True)))) := ⟨trivial, ⟨trivial, ⟨trivial, ⟨trivial, trivial⟩⟩⟩⟩
      refine TS.reg [] ?_ ?_
      · apply prop_of ?_ hq
        kernel_rfl
      refine XS.then ?_
      refine TS.ret ?_
      refine XS.blockRet ?_
      refine XS.passR ?_
      obtain rfl : (h_Count, h_Ports, ([] : List UInt8), (8 : Int)) = r := Option.some.inj h
      exact XS.fin [] ((True) ∧ ((True) ∧ ((True) ∧ (True)))) (by kernel_rfl) ⟨trivial, ⟨trivial, ⟨trivial, trivial⟩⟩⟩
    · refine TS.cond (y_6.2.2.2.2 != (0 : Int)) ?_ (fun hcz => by rw [c6] at hcz; cases hcz) (fun hcz => ?_)
      · kernel_rfl
      refine TS.seq ?_
      refine TS.cut (D := Bool) (fun d => match d with | x => (mkTs 98 [(2, (.ptr 0 [])), (4, (.ptr 1 [])), (8, (.ptr 2 [])), (27, (.bool x))], [(.box 66 (.st (.cons (.int .i64 h_Count) (.arr 16 (.st (.pair (.int .i64) (.int .i64))) h_Ports)))), (.box 66 (.st (.cons (.int .i64 (0 : Int)) (.arr 16 (.st (.pair (.int .i64) (.int .i64))) (List.replicate 16 ((0 : Int), (0 : Int))))))), (.box 101 (.st (.cons (.int .i64 y_6.1) (.cons (.int .i64 y_6.2.1) (.cons (.int .i64 y_6.2.2.1) (.int .i64 y_6.2.2.2.1))))))])) (fun d => F33_j3 n h_Count h_Ports y_6 d = some r) ?_ ?_
      · rintro x h
        replace h : (bif x then (some (h_Count, h_Ports, ([] : List UInt8), (12 : Int))) else (bif (decide (y_6.2.2.1 > h_Count)) then (some (h_Count, h_Ports, ([] : List UInt8), (8 : Int))) else (bif inb y_6.2.2.1 16 then (bif (y_6.1 == (8 : Int)) then (some (h_Count, h_Ports, (strOf [(IntKind.wrap .u8 ((h_Ports.getD y_6.2.2.1.toNat ((0 : Int), (0 : Int))).1)), (IntKind.wrap .u8 ((shrI .i64 ((h_Ports.getD y_6.2.2.1.toNat ((0 : Int), (0 : Int))).1) (8 : Int)))), (IntKind.wrap .u8 ((h_Ports.getD y_6.2.2.1.toNat ((0 : Int), (0 : Int))).2)), (IntKind.wrap .u8 ((shrI .i64 ((h_Ports.getD y_6.2.2.1.toNat ((0 : Int), (0 : Int))).2) (8 : Int))))]), (0 : Int))) else (bif (y_6.1 == (9 : Int)) then (bif (y_6.2.1 == (8 : Int)) then (F33_j4 n h_Count h_Ports ((0 : Int), (h_Ports.set y_6.2.2.1.toNat ((bitsI .or .i64 ((h_Ports.getD y_6.2.2.1.toNat ((0 : Int), (0 : Int))).1) (256 : Int)), (h_Ports.getD y_6.2.2.1.toNat ((0 : Int), (0 : Int))).2)))) else (bif (y_6.2.1 == (4 : Int)) then (bif ((bitsI .and .i64 ((h_Ports.getD y_6.2.2.1.toNat ((0 : Int), (0 : Int))).1) (1 : Int)) != (0 : Int)) then (F33_j4 n h_Count h_Ports ((0 : Int), (h_Ports.set y_6.2.2.1.toNat ((bitsI .or .i64 (bitsI .andNot .i64 ((h_Ports.getD y_6.2.2.1.toNat ((0 : Int), (0 : Int))).1) (2 : Int)) (16 : Int)), (h_Ports.getD y_6.2.2.1.toNat ((0 : Int), (0 : Int))).2)))) else (F33_j4 n h_Count h_Ports ((8 : Int), h_Ports))) else (F33_j4 n h_Count h_Ports ((8 : Int), h_Ports)))) else (bif (y_6.2.1 == (1 : Int)) then (F33_j4 n h_Count h_Ports ((0 : Int), (h_Ports.set y_6.2.2.1.toNat ((bitsI .andNot .i64 ((h_Ports.getD y_6.2.2.1.toNat ((0 : Int), (0 : Int))).1) (2 : Int)), (h_Ports.getD y_6.2.2.1.toNat ((0 : Int), (0 : Int))).2)))) else (bif (y_6.2.1 == (8 : Int)) then (F33_j4 n h_Count h_Ports ((0 : Int), (h_Ports.set y_6.2.2.1.toNat ((0 : Int), (h_Ports.getD y_6.2.2.1.toNat ((0 : Int), (0 : Int))).2)))) else (bif (y_6.2.1 == (16 : Int)) then (F33_j4 n h_Count h_Ports ((0 : Int), (h_Ports.set y_6.2.2.1.toNat ((h_Ports.getD y_6.2.2.1.toNat ((0 : Int), (0 : Int))).1, (bitsI .andNot .i64 ((h_Ports.getD y_6.2.2.1.toNat ((0 : Int), (0 : Int))).2) (1 : Int)))))) else (bif (y_6.2.1 == (17 : Int)) then (F33_j4 n h_Count h_Ports ((0 : Int), (h_Ports.set y_6.2.2.1.toNat ((h_Ports.getD y_6.2.2.1.toNat ((0 : Int), (0 : Int))).1, (bitsI .andNot .i64 ((h_Ports.getD y_6.2.2.1.toNat ((0 : Int), (0 : Int))).2) (2 : Int)))))) else (bif (y_6.2.1 == (20 : Int)) then (F33_j4 n h_Count h_Ports ((0 : Int), (h_Ports.set y_6.2.2.1.toNat ((h_Ports.getD y_6.2.2.1.toNat ((0 : Int), (0 : Int))).1, (bitsI .andNot .i64 ((h_Ports.getD y_6.2.2.1.toNat ((0 : Int), (0 : Int))).2) (16 : Int)))))) else (F33_j4 n h_Count h_Ports ((8 : Int), h_Ports))))))))) else none))) = some r := h
        refine XS.then ?_
        rcases bif_some h with ⟨c7, h⟩ | ⟨c8, h⟩
        · refine TS.cond x ?_ (fun hcz => ?_) (fun hcz => by rw [c7] at hcz; cases hcz)
          · kernel_rfl
          refine TS.seq ?_
          have hq : (True) ∧ ((True) ∧ ((True) ∧ ((True) ∧ (True)))) := ⟨trivial, ⟨trivial, ⟨trivial, ⟨trivial, trivial⟩⟩⟩⟩
          refine TS.reg [] ?_ ?_
          · apply prop_of ?_ hq
            kernel_rfl
          refine XS.then ?_
          refine TS.ret ?_
          refine XS.blockRet ?_
          refine XS.passR ?_
          obtain rfl : (h_Count, h_Ports, ([] : List UInt8), (12 : Int)) = r := Option.some.inj h
          exact XS.fin [] ((True) ∧ ((True) ∧ ((True) ∧ (True)))) (by kernel_rfl) ⟨trivial, ⟨trivial, ⟨trivial, trivial⟩⟩⟩
        · refine TS.cond x ?_ (fun hcz => by rw [c8] at hcz; cases hcz) (fun hcz => ?_)
          · kernel_rfl
          refine TS.seq ?_
          have hq : (True) ∧ ((True) ∧ ((True) ∧ ((True) ∧ ((True) ∧ ((True) ∧ (True)))))) := ⟨trivial, ⟨trivial, ⟨trivial, ⟨trivial, ⟨trivial, ⟨trivial, trivial⟩⟩⟩⟩⟩⟩
          refine TS.reg [] ?_ ?_
          · apply prop_of ?_ hq
            kernel_rfl
          refine XS.then ?_
          rcases bif_some h with ⟨c9, h⟩ | ⟨c10, h⟩
          · refine TS.cond (decide (y_6.2.2.1 > h_Count)) ?_ (fun hcz => ?_) (fun hcz => by rw [c9] at hcz; cases hcz)
            · kernel_rfl
            refine TS.seq ?_
            have hq : (True) ∧ ((True) ∧ ((True) ∧ ((True) ∧ (True)))) := ⟨trivial, ⟨trivial, ⟨trivial, ⟨trivial, trivial⟩⟩⟩⟩
            refine TS.reg [] ?_ ?_
            · apply prop_of ?_ hq
              kernel_rfl
            refine XS.then ?_
            refine TS.ret ?_
            refine XS.blockRet ?_
            refine XS.passR ?_
            obtain rfl : (h_Count, h_Ports, ([] : List UInt8), (8 : Int)) = r := Option.some.inj h
            exact XS.fin [] ((True) ∧ ((True) ∧ ((True) ∧ (True)))) (by kernel_rfl) ⟨trivial, ⟨trivial, ⟨trivial, trivial⟩⟩⟩
          · refine TS.cond (decide (y_6.2.2.1 > h_Count)) ?_ (fun hcz => by rw [c10] at hcz; cases hcz) (fun hcz => ?_)
            · kernel_rfl
            refine TS.skip ?_
            refine XS.blockEnd ?_
            refine XS.then ?_
            refine TS.seq ?_
            have hq : (True) ∧ ((True) ∧ ((True) ∧ (True))) := ⟨trivial, ⟨trivial, ⟨trivial, trivial⟩⟩⟩
            refine TS.reg [] ?_ ?_
            · apply prop_of ?_ hq
              kernel_rfl
            refine XS.then ?_
            refine TS.seq ?_
            obtain ⟨t11, h⟩ := test_some h
            have hq : (True) ∧ ((True) ∧ ((True) ∧ ((inR y_6.2.2.1 16) ∧ ((True) ∧ (True))))) := ⟨trivial, ⟨trivial, ⟨trivial, ⟨inb_ok t11, ⟨trivial, trivial⟩⟩⟩⟩⟩
            refine TS.reg [] ?_ ?_
            · apply prop_of ?_ hq
              kernel_rfl
            refine XS.then ?_
            refine TS.seq ?_
            refine TS.seq ?_
            have hq : (True) ∧ ((True) ∧ (True)) := ⟨trivial, ⟨trivial, trivial⟩⟩
            refine TS.reg [] ?_ ?_
            · apply prop_of ?_ hq
              kernel_rfl
            refine XS.then ?_
            refine TS.cut (D := Int × (List (Int × Int))) (fun d => match d with | (e, m2) => (mkTs 98 [(2, (.ptr 0 [])), (4, (.ptr 1 [])), (9, (.int .i64 e)), (10, (.ptr 2 []))], [(.box 66 (.st (.cons (.int .i64 h_Count) (.arr 16 (.st (.pair (.int .i64) (.int .i64))) h_Ports)))), (.box 66 (.st (.cons (.int .i64 (0 : Int)) (.arr 16 (.st (.pair (.int .i64) (.int .i64))) (List.replicate 16 ((0 : Int), (0 : Int))))))), (.box 66 (.st (.cons (.int .i64 h_Count) (.arr 16 (.st (.pair (.int .i64) (.int .i64))) m2))))])) (fun d => F33_j4 n h_Count h_Ports d = some r) ?_ ?_
            · rintro ⟨e, m2⟩ h
              replace h : (bif (e != (0 : Int)) then (some (h_Count, h_Ports, ([] : List UInt8), e)) else (some (h_Count, m2, ([] : List UInt8), (0 : Int)))) = some r := h
              refine XS.then ?_
              refine TS.seq ?_
              refine TS.seq ?_
              have hq : (True) ∧ ((True) ∧ (True)) := ⟨trivial, ⟨trivial, trivial⟩⟩
              refine TS.reg [] ?_ ?_
              · apply prop_of ?_ hq
                kernel_rfl
              refine XS.then ?_
              rcases bif_some h with ⟨c12, h⟩ | ⟨c13, h⟩
              · refine TS.cond (e != (0 : Int)) ?_ (fun hcz => ?_) (fun hcz => by rw [c12] at hcz; cases hcz)
                · kernel_rfl
                refine TS.seq ?_
                have hq : (True) ∧ ((True) ∧ ((True) ∧ ((True) ∧ ((True) ∧ (True))))) := ⟨trivial, ⟨trivial, ⟨trivial, ⟨trivial, ⟨trivial, trivial⟩⟩⟩⟩⟩
                refine TS.reg [] ?_ ?_
                · apply prop_of ?_ hq
                  kernel_rfl
                refine XS.then ?_
                refine TS.ret ?_
                refine XS.passR ?_
                obtain rfl : (h_Count, h_Ports, ([] : List UInt8), e) = r := Option.some.inj h
                exact XS.fin [] ((True) ∧ ((True) ∧ ((True) ∧ (True)))) (by kernel_rfl) ⟨trivial, ⟨trivial, ⟨trivial, trivial⟩⟩⟩
              · refine TS.cond (e != (0 : Int)) ?_ (fun hcz => by rw [c13] at hcz; cases hcz) (fun hcz => ?_)
                · kernel_rfl
                refine TS.skip ?_
                refine XS.then ?_
                refine TS.seq ?_
                have hq : (True) ∧ ((True) ∧ ((True) ∧ ((True) ∧ (True)))) := ⟨trivial, ⟨trivial, ⟨trivial, ⟨trivial, trivial⟩⟩⟩⟩
                refine TS.reg [] ?_ ?_
                · apply prop_of ?_ hq
                  kernel_rfl
                refine XS.then ?_
                refine TS.ret ?_
                obtain rfl : (h_Count, m2, ([] : List UInt8), (0 : Int)) = r := Option.some.inj h
                exact XS.fin [] ((True) ∧ ((True) ∧ ((True) ∧ (True)))) (by kernel_rfl) ⟨trivial, ⟨trivial, ⟨trivial, trivial⟩⟩⟩
            · refine TS.block ?_
              refine TS.seq ?_
              have hq : (True) ∧ ((True) ∧ (True)) := ⟨trivial, ⟨trivial, trivial⟩⟩
              refine TS.reg [] ?_ ?_
              · apply prop_of ?_ hq
                kernel_rfl
              refine XS.then ?_
              rcases bif_some h with ⟨c14, h⟩ | ⟨c15, h⟩
              · refine TS.cond (y_6.1 == (8 : Int)) ?_ (fun hcz => ?_) (fun hcz => by rw [c14] at hcz; cases hcz)
                · kernel_rfl
                refine TS.seq ?_
                have hq : ((True) ∧ ((True) ∧ ((True) ∧ ((True) ∧ ((y_6.2.2.1.toNat < 16 ∧ (True)) ∧ ((True) ∧ ((True) ∧ ((True) ∧ ((True) ∧ ((y_6.2.2.1.toNat < 16 ∧ (True)) ∧ ((0 ≤ (8 : Int)) ∧ ((True) ∧ ((True) ∧ ((True) ∧ ((True) ∧ ((y_6.2.2.1.toNat < 16 ∧ (True)) ∧ ((True) ∧ ((True) ∧ ((True) ∧ ((True) ∧ ((y_6.2.2.1.toNat < 16 ∧ (True)) ∧ ((0 ≤ (8 : Int)) ∧ ((True) ∧ (((0 < 4 ∧ True) ∧ ((1 < 4 ∧ True) ∧ ((2 < 4 ∧ True) ∧ ((3 < 4 ∧ True) ∧ (True))))) ∧ ((True) ∧ ((True) ∧ (True))))))))))))))))))))))))))) ∧ ((True) ∧ ((True) ∧ (True))) := ⟨⟨trivial, ⟨trivial, ⟨trivial, ⟨trivial, ⟨⟨inR_lt (inb_ok t11), trivial⟩, ⟨trivial, ⟨trivial, ⟨trivial, ⟨trivial, ⟨⟨inR_lt (inb_ok t11), trivial⟩, ⟨by decide, ⟨trivial, ⟨trivial, ⟨trivial, ⟨trivial, ⟨⟨inR_lt (inb_ok t11), trivial⟩, ⟨trivial, ⟨trivial, ⟨trivial, ⟨trivial, ⟨⟨inR_lt (inb_ok t11), trivial⟩, ⟨by decide, ⟨trivial, ⟨⟨⟨by decide, trivial⟩, ⟨⟨by decide, trivial⟩, ⟨⟨by decide, trivial⟩, ⟨⟨by decide, trivial⟩, trivial⟩⟩⟩⟩, ⟨trivial, ⟨trivial, trivial⟩⟩⟩⟩⟩⟩⟩⟩⟩⟩⟩⟩⟩⟩⟩⟩⟩⟩⟩⟩⟩⟩⟩⟩⟩⟩, ⟨trivial, ⟨trivial, trivial⟩⟩⟩
                refine TS.draw 26 [(25, 1)] [] (by kernel_rfl) ?_ ?_
                · apply prop_of ?_ hq
                  kernel_rfl
                refine XS.then ?_
                refine TS.ret ?_
                refine XS.blockRet ?_
                refine XS.passR ?_
                refine XS.passR ?_
                obtain rfl : (h_Count, h_Ports, (strOf [(IntKind.wrap .u8 ((h_Ports.getD y_6.2.2.1.toNat ((0 : Int), (0 : Int))).1)), (IntKind.wrap .u8 ((shrI .i64 ((h_Ports.getD y_6.2.2.1.toNat ((0 : Int), (0 : Int))).1) (8 : Int)))), (IntKind.wrap .u8 ((h_Ports.getD y_6.2.2.1.toNat ((0 : Int), (0 : Int))).2)), (IntKind.wrap .u8 ((shrI .i64 ((h_Ports.getD y_6.2.2.1.toNat ((0 : Int), (0 : Int))).2) (8 : Int))))]), (0 : Int)) = r := Option.some.inj h
                exact XS.fin [] ((True) ∧ ((True) ∧ ((True) ∧ (True)))) (by kernel_rfl) ⟨trivial, ⟨trivial, ⟨trivial, trivial⟩⟩⟩
              · refine TS.cond (y_6.1 == (8 : Int)) ?_ (fun hcz => by rw [c15] at hcz; cases hcz) (fun hcz => ?_)
                · kernel_rfl
                refine TS.seq ?_
                have hq : (True) ∧ ((True) ∧ (True)) := ⟨trivial, ⟨trivial, trivial⟩⟩
                refine TS.reg [] ?_ ?_
                · apply prop_of ?_ hq
                  kernel_rfl
                refine XS.then ?_
                rcases bif_some h with ⟨c16, h⟩ | ⟨c17, h⟩
                · refine TS.cond (y_6.1 == (9 : Int)) ?_ (fun hcz => ?_) (fun hcz => by rw [c16] at hcz; cases hcz)
                  · kernel_rfl
                  refine TS.opsOf ?_
                  have hq : (True) ∧ ((True) ∧ ((True) ∧ (True))) := ⟨trivial, ⟨trivial, ⟨trivial, trivial⟩⟩⟩
                  refine TOS.run 3 [] (by kernel_rfl) ?_ ?_
                  · apply prop_of ?_ hq
                    kernel_rfl
                  refine TOS.call 90 (mkMask 98 [2, 4, 10]) Try.func90 rfl ?_
                  intro fv7
                  refine ⟨(mkTs 35 [(0, (.ptr 3 [.fld 1 1, .idx y_6.2.2.1.toNat 2])), (1, (.int .i64 y_6.2.1))], [(.box 66 (.st (.cons (.int .i64 h_Count) (.arr 16 (.st (.pair (.int .i64) (.int .i64))) h_Ports)))), (.box 66 (.st (.cons (.int .i64 (0 : Int)) (.arr 16 (.st (.pair (.int .i64) (.int .i64))) (List.replicate 16 ((0 : Int), (0 : Int))))))), (.box 101 (.st (.cons (.int .i64 y_6.1) (.cons (.int .i64 y_6.2.1) (.cons (.int .i64 y_6.2.2.1) (.int .i64 y_6.2.2.2.1)))))), (.box 66 (.st (.cons (.int .i64 h_Count) (.arr 16 (.st (.pair (.int .i64) (.int .i64))) h_Ports)))), (.sav (mkTs 98 [(2, (.ptr 0 [])), (4, (.ptr 1 [])), (10, (.ptr 3 []))]) fv7)]), by kernel_rfl, ?_⟩
                  refine TS.seq ?_
                  have hq : (True) ∧ (True) := ⟨trivial, trivial⟩
                  refine TS.reg [] ?_ ?_
                  · apply prop_of ?_ hq
                    kernel_rfl
                  refine XS.then ?_
                  refine TS.seq ?_
                  refine TS.block ?_
                  refine TS.seq ?_
                  have hq : (True) ∧ ((True) ∧ ((True) ∧ (True))) := ⟨trivial, ⟨trivial, ⟨trivial, trivial⟩⟩⟩
                  refine TS.reg [] ?_ ?_
                  · apply prop_of ?_ hq
                    kernel_rfl
                  refine XS.then ?_
                  rcases bif_some h with ⟨c18, h⟩ | ⟨c19, h⟩
                  · refine TS.cond (y_6.2.1 == (8 : Int)) ?_ (fun hcz => ?_) (fun hcz => by rw [c18] at hcz; cases hcz)
                    · kernel_rfl
                    have hq : (True) ∧ ((True) ∧ ((True) ∧ ((y_6.2.2.1.toNat < 16 ∧ (True)) ∧ ((True) ∧ ((True) ∧ ((True) ∧ ((y_6.2.2.1.toNat < 16 ∧ (True)) ∧ (True)))))))) := ⟨trivial, ⟨trivial, ⟨trivial, ⟨⟨inR_lt (inb_ok t11), trivial⟩, ⟨trivial, ⟨trivial, ⟨trivial, ⟨⟨inR_lt (inb_ok t11), trivial⟩, trivial⟩⟩⟩⟩⟩⟩⟩⟩
                    refine TS.reg [] ?_ ?_
                    · apply prop_of ?_ hq
                      kernel_rfl
                    refine XS.blockEnd ?_
                    refine XS.then ?_
                    refine TS.seq ?_
                    have hq : (True) ∧ (True) := ⟨trivial, trivial⟩
                    refine TS.reg [] ?_ ?_
                    · apply prop_of ?_ hq
                      kernel_rfl
                    refine XS.then ?_
                    refine TS.ret ?_
                    refine XS.backR 4 (mkTs 98 [(2, (.ptr 0 [])), (4, (.ptr 1 [])), (10, (.ptr 3 []))]) (mkTs 98 [(2, (.ptr 0 [])), (4, (.ptr 1 [])), (10, (.ptr 3 [])), (92, (.int .i64 (0 : Int)))], [(.box 66 (.st (.cons (.int .i64 h_Count) (.arr 16 (.st (.pair (.int .i64) (.int .i64))) h_Ports)))), (.box 66 (.st (.cons (.int .i64 (0 : Int)) (.arr 16 (.st (.pair (.int .i64) (.int .i64))) (List.replicate 16 ((0 : Int), (0 : Int))))))), (.box 101 (.st (.cons (.int .i64 y_6.1) (.cons (.int .i64 y_6.2.1) (.cons (.int .i64 y_6.2.2.1) (.int .i64 y_6.2.2.2.1)))))), (.box 66 (.st (.cons (.int .i64 h_Count) (.arr 16 (.st (.pair (.int .i64) (.int .i64))) (h_Ports.set y_6.2.2.1.toNat ((bitsI .or .i64 ((h_Ports.getD y_6.2.2.1.toNat ((0 : Int), (0 : Int))).1) (256 : Int)), (h_Ports.getD y_6.2.2.1.toNat ((0 : Int), (0 : Int))).2)))))), .dead]) ((True) ∧ (True)) (by kernel_rfl) (by kernel_rfl) ⟨trivial, trivial⟩ ?_
                    refine KS.opsOf ?_
                    have hq : (True) ∧ (True) := ⟨trivial, trivial⟩
                    refine TOS.run 1 [] (by kernel_rfl) ?_ ?_
                    · apply prop_of ?_ hq
                      kernel_rfl
                    refine TOS.nil (by kernel_rfl) ?_
                    refine XS.blockEnd ?_
                    refine XS.reAny [0, 1, 3] (mkMask 98 [2, 4, 9, 10]) ((0 : Int), (h_Ports.set y_6.2.2.1.toNat ((bitsI .or .i64 ((h_Ports.getD y_6.2.2.1.toNat ((0 : Int), (0 : Int))).1) (256 : Int)), (h_Ports.getD y_6.2.2.1.toNat ((0 : Int), (0 : Int))).2))) h ?_
                    kernel_rfl
                  · refine TS.cond (y_6.2.1 == (8 : Int)) ?_ (fun hcz => by rw [c19] at hcz; cases hcz) (fun hcz => ?_)
                    · kernel_rfl
                    refine TS.seq ?_
                    rcases bif_some h with ⟨c20, h⟩ | ⟨c21, h⟩
                    · have hq : (True) ∧ ((True) ∧ (((True) ∧ (y_6.2.1 == (4 : Int)) = true) ∧ ((True) ∧ ((True) ∧ ((True) ∧ ((y_6.2.2.1.toNat < 16 ∧ (True)) ∧ ((True) ∧ ((True) ∧ ((True) ∧ ((True) ∧ (True))))))))))) := ⟨trivial, ⟨trivial, ⟨⟨trivial, c20⟩, ⟨trivial, ⟨trivial, ⟨trivial, ⟨⟨inR_lt (inb_ok t11), trivial⟩, ⟨trivial, ⟨trivial, ⟨trivial, ⟨trivial, trivial⟩⟩⟩⟩⟩⟩⟩⟩⟩⟩⟩
                      refine TS.reg [.none, .none, .dec true] ?_ ?_
                      · apply prop_of ?_ hq
                        kernel_rfl
                      refine XS.then ?_
                      rcases bif_some h with ⟨c22, h⟩ | ⟨c23, h⟩
                      · refine TS.cond ((bitsI .and .i64 ((h_Ports.getD y_6.2.2.1.toNat ((0 : Int), (0 : Int))).1) (1 : Int)) != (0 : Int)) ?_ (fun hcz => ?_) (fun hcz => by rw [c22] at hcz; cases hcz)
                        · kernel_rfl
                        have hq : (True) ∧ ((True) ∧ ((True) ∧ ((True) ∧ ((y_6.2.2.1.toNat < 16 ∧ (True)) ∧ ((True) ∧ ((True) ∧ ((True) ∧ ((True) ∧ ((y_6.2.2.1.toNat < 16 ∧ (True)) ∧ (True)))))))))) := ⟨trivial, ⟨trivial, ⟨trivial, ⟨trivial, ⟨⟨inR_lt (inb_ok t11), trivial⟩, ⟨trivial, ⟨trivial, ⟨trivial, ⟨trivial, ⟨⟨inR_lt (inb_ok t11), trivial⟩, trivial⟩⟩⟩⟩⟩⟩⟩⟩⟩⟩
                        refine TS.reg [] ?_ ?_
                        · apply prop_of ?_ hq
                          kernel_rfl
                        refine XS.blockEnd ?_
                        refine XS.then ?_
                        refine TS.seq ?_
                        have hq : (True) ∧ (True) := ⟨trivial, trivial⟩
                        refine TS.reg [] ?_ ?_
                        · apply prop_of ?_ hq
                          kernel_rfl
                        refine XS.then ?_
                        refine TS.ret ?_
                        refine XS.backR 4 (mkTs 98 [(2, (.ptr 0 [])), (4, (.ptr 1 [])), (10, (.ptr 3 []))]) (mkTs 98 [(2, (.ptr 0 [])), (4, (.ptr 1 [])), (10, (.ptr 3 [])), (92, (.int .i64 (0 : Int)))], [(.box 66 (.st (.cons (.int .i64 h_Count) (.arr 16 (.st (.pair (.int .i64) (.int .i64))) h_Ports)))), (.box 66 (.st (.cons (.int .i64 (0 : Int)) (.arr 16 (.st (.pair (.int .i64) (.int .i64))) (List.replicate 16 ((0 : Int), (0 : Int))))))), (.box 101 (.st (.cons (.int .i64 y_6.1) (.cons (.int .i64 y_6.2.1) (.cons (.int .i64 y_6.2.2.1) (.int .i64 y_6.2.2.2.1)))))), (.box 66 (.st (.cons (.int .i64 h_Count) (.arr 16 (.st (.pair (.int .i64) (.int .i64))) (h_Ports.set y_6.2.2.1.toNat ((bitsI .or .i64 (bitsI .andNot .i64 ((h_Ports.getD y_6.2.2.1.toNat ((0 : Int), (0 : Int))).1) (2 : Int)) (16 : Int)), (h_Ports.getD y_6.2.2.1.toNat ((0 : Int), (0 : Int))).2)))))), .dead]) ((True) ∧ (True)) (by kernel_rfl) (by kernel_rfl) ⟨trivial, trivial⟩ ?_
                        refine KS.opsOf ?_
                        have hq : (True) ∧ (True) := ⟨trivial, trivial⟩
                        refine TOS.run 1 [] (by kernel_rfl) ?_ ?_
                        · apply prop_of ?_ hq
                          kernel_rfl
                        refine TOS.nil (by kernel_rfl) ?_
                        refine XS.blockEnd ?_
                        refine XS.reAny [0, 1, 3] (mkMask 98 [2, 4, 9, 10]) ((0 : Int), (h_Ports.set y_6.2.2.1.toNat ((bitsI .or .i64 (bitsI .andNot .i64 ((h_Ports.getD y_6.2.2.1.toNat ((0 : Int), (0 : Int))).1) (2 : Int)) (16 : Int)), (h_Ports.getD y_6.2.2.1.toNat ((0 : Int), (0 : Int))).2))) h ?_
                        kernel_rfl
                      · refine TS.cond ((bitsI .and .i64 ((h_Ports.getD y_6.2.2.1.toNat ((0 : Int), (0 : Int))).1) (1 : Int)) != (0 : Int)) ?_ (fun hcz => by rw [c23] at hcz; cases hcz) (fun hcz => ?_)
                        · kernel_rfl
                        refine TS.seq ?_
                        have hq : (True) ∧ (True) := ⟨trivial, trivial⟩
                        refine TS.reg [] ?_ ?_
                        · apply prop_of ?_ hq
                          kernel_rfl
                        refine XS.then ?_
                        refine TS.ret ?_
                        refine XS.blockRet ?_
                        refine XS.passR ?_
                        refine XS.backR 4 (mkTs 98 [(2, (.ptr 0 [])), (4, (.ptr 1 [])), (10, (.ptr 3 []))]) (mkTs 98 [(2, (.ptr 0 [])), (4, (.ptr 1 [])), (10, (.ptr 3 [])), (92, (.int .i64 (8 : Int)))], [(.box 66 (.st (.cons (.int .i64 h_Count) (.arr 16 (.st (.pair (.int .i64) (.int .i64))) h_Ports)))), (.box 66 (.st (.cons (.int .i64 (0 : Int)) (.arr 16 (.st (.pair (.int .i64) (.int .i64))) (List.replicate 16 ((0 : Int), (0 : Int))))))), (.box 101 (.st (.cons (.int .i64 y_6.1) (.cons (.int .i64 y_6.2.1) (.cons (.int .i64 y_6.2.2.1) (.int .i64 y_6.2.2.2.1)))))), (.box 66 (.st (.cons (.int .i64 h_Count) (.arr 16 (.st (.pair (.int .i64) (.int .i64))) h_Ports)))), .dead]) ((True) ∧ (True)) (by kernel_rfl) (by kernel_rfl) ⟨trivial, trivial⟩ ?_
                        refine KS.opsOf ?_
                        have hq : (True) ∧ (True) := ⟨trivial, trivial⟩
                        refine TOS.run 1 [] (by kernel_rfl) ?_ ?_
                        · apply prop_of ?_ hq
                          kernel_rfl
                        refine TOS.nil (by kernel_rfl) ?_
                        refine XS.blockEnd ?_
                        refine XS.reAny [0, 1, 3] (mkMask 98 [2, 4, 9, 10]) ((8 : Int), h_Ports) h ?_
                        kernel_rfl
                    · have hq : (True) ∧ ((True) ∧ (((True) ∧ (y_6.2.1 == (4 : Int)) = false) ∧ ((True) ∧ ((True) ∧ (True))))) := ⟨trivial, ⟨trivial, ⟨⟨trivial, c21⟩, ⟨trivial, ⟨trivial, trivial⟩⟩⟩⟩⟩
                      refine TS.reg [.none, .none, .dec false] ?_ ?_
                      · apply prop_of ?_ hq
                        kernel_rfl
                      refine XS.then ?_
                      refine TS.no ?_ ?_
                      · kernel_rfl
                      refine TS.seq ?_
                      have hq : (True) ∧ (True) := ⟨trivial, trivial⟩
                      refine TS.reg [] ?_ ?_
                      · apply prop_of ?_ hq
                        kernel_rfl
                      refine XS.then ?_
                      refine TS.ret ?_
                      refine XS.blockRet ?_
                      refine XS.passR ?_
                      refine XS.backR 4 (mkTs 98 [(2, (.ptr 0 [])), (4, (.ptr 1 [])), (10, (.ptr 3 []))]) (mkTs 98 [(2, (.ptr 0 [])), (4, (.ptr 1 [])), (10, (.ptr 3 [])), (92, (.int .i64 (8 : Int)))], [(.box 66 (.st (.cons (.int .i64 h_Count) (.arr 16 (.st (.pair (.int .i64) (.int .i64))) h_Ports)))), (.box 66 (.st (.cons (.int .i64 (0 : Int)) (.arr 16 (.st (.pair (.int .i64) (.int .i64))) (List.replicate 16 ((0 : Int), (0 : Int))))))), (.box 101 (.st (.cons (.int .i64 y_6.1) (.cons (.int .i64 y_6.2.1) (.cons (.int .i64 y_6.2.2.1) (.int .i64 y_6.2.2.2.1)))))), (.box 66 (.st (.cons (.int .i64 h_Count) (.arr 16 (.st (.pair (.int .i64) (.int .i64))) h_Ports)))), .dead]) ((True) ∧ (True)) (by kernel_rfl) (by kernel_rfl) ⟨trivial, trivial⟩ ?_
                      refine KS.opsOf ?_
                      have hq : (True) ∧ (True) := ⟨trivial, trivial⟩
                      refine TOS.run 1 [] (by kernel_rfl) ?_ ?_
                      · apply prop_of ?_ hq
                        kernel_rfl
                      refine TOS.nil (by kernel_rfl) ?_
                      refine XS.blockEnd ?_
                      refine XS.reAny [0, 1, 3] (mkMask 98 [2, 4, 9, 10]) ((8 : Int), h_Ports) h ?_
                      kernel_rfl
                · refine TS.cond (y_6.1 == (9 : Int)) ?_ (fun hcz => by rw [c17] at hcz; cases hcz) (fun hcz => ?_)
                  · kernel_rfl
                  refine TS.opsOf ?_
                  have hq : (True) ∧ ((True) ∧ ((True) ∧ (True))) := ⟨trivial, ⟨trivial, ⟨trivial, trivial⟩⟩⟩
                  refine TOS.run 3 [] (by kernel_rfl) ?_ ?_
                  · apply prop_of ?_ hq
                    kernel_rfl
                  refine TOS.call 91 (mkMask 98 [2, 4, 10]) Try.func91 rfl ?_
                  intro fv8
                  refine ⟨(mkTs 47 [(0, (.ptr 3 [.fld 1 1, .idx y_6.2.2.1.toNat 2])), (1, (.int .i64 y_6.2.1))], [(.box 66 (.st (.cons (.int .i64 h_Count) (.arr 16 (.st (.pair (.int .i64) (.int .i64))) h_Ports)))), (.box 66 (.st (.cons (.int .i64 (0 : Int)) (.arr 16 (.st (.pair (.int .i64) (.int .i64))) (List.replicate 16 ((0 : Int), (0 : Int))))))), (.box 101 (.st (.cons (.int .i64 y_6.1) (.cons (.int .i64 y_6.2.1) (.cons (.int .i64 y_6.2.2.1) (.int .i64 y_6.2.2.2.1)))))), (.box 66 (.st (.cons (.int .i64 h_Count) (.arr 16 (.st (.pair (.int .i64) (.int .i64))) h_Ports)))), (.sav (mkTs 98 [(2, (.ptr 0 [])), (4, (.ptr 1 [])), (10, (.ptr 3 []))]) fv8)]), by kernel_rfl, ?_⟩
                  refine TS.seq ?_
                  have hq : (True) ∧ (True) := ⟨trivial, trivial⟩
                  refine TS.reg [] ?_ ?_
                  · apply prop_of ?_ hq
                    kernel_rfl
                  refine XS.then ?_
                  refine TS.seq ?_
                  refine TS.seq ?_
                  have hq : (True) ∧ (True) := ⟨trivial, trivial⟩
                  refine TS.reg [] ?_ ?_
                  · apply prop_of ?_ hq
                    kernel_rfl
                  refine XS.then ?_
                  refine TS.block ?_
                  refine TS.seq ?_
                  have hq : (True) ∧ ((True) ∧ (True)) := ⟨trivial, ⟨trivial, trivial⟩⟩
                  refine TS.reg [] ?_ ?_
                  · apply prop_of ?_ hq
                    kernel_rfl
                  refine XS.then ?_
                  rcases bif_some h with ⟨c24, h⟩ | ⟨c25, h⟩
                  · refine TS.cond (y_6.2.1 == (1 : Int)) ?_ (fun hcz => ?_) (fun hcz => by rw [c24] at hcz; cases hcz)
                    · kernel_rfl
                    have hq : (True) ∧ ((True) ∧ ((True) ∧ ((y_6.2.2.1.toNat < 16 ∧ (True)) ∧ ((True) ∧ ((True) ∧ ((True) ∧ ((y_6.2.2.1.toNat < 16 ∧ (True)) ∧ (True)))))))) := ⟨trivial, ⟨trivial, ⟨trivial, ⟨⟨inR_lt (inb_ok t11), trivial⟩, ⟨trivial, ⟨trivial, ⟨trivial, ⟨⟨inR_lt (inb_ok t11), trivial⟩, trivial⟩⟩⟩⟩⟩⟩⟩⟩
                    refine TS.reg [] ?_ ?_
                    · apply prop_of ?_ hq
                      kernel_rfl
                    refine XS.blockEnd ?_
                    refine XS.then ?_
                    refine TS.seq ?_
                    have hq : (True) ∧ (True) := ⟨trivial, trivial⟩
                    refine TS.reg [] ?_ ?_
                    · apply prop_of ?_ hq
                      kernel_rfl
                    refine XS.then ?_
                    refine TS.ret ?_
                    refine XS.backR 4 (mkTs 98 [(2, (.ptr 0 [])), (4, (.ptr 1 [])), (10, (.ptr 3 []))]) (mkTs 98 [(2, (.ptr 0 [])), (4, (.ptr 1 [])), (10, (.ptr 3 [])), (59, (.int .i64 (0 : Int)))], [(.box 66 (.st (.cons (.int .i64 h_Count) (.arr 16 (.st (.pair (.int .i64) (.int .i64))) h_Ports)))), (.box 66 (.st (.cons (.int .i64 (0 : Int)) (.arr 16 (.st (.pair (.int .i64) (.int .i64))) (List.replicate 16 ((0 : Int), (0 : Int))))))), (.box 101 (.st (.cons (.int .i64 y_6.1) (.cons (.int .i64 y_6.2.1) (.cons (.int .i64 y_6.2.2.1) (.int .i64 y_6.2.2.2.1)))))), (.box 66 (.st (.cons (.int .i64 h_Count) (.arr 16 (.st (.pair (.int .i64) (.int .i64))) (h_Ports.set y_6.2.2.1.toNat ((bitsI .andNot .i64 ((h_Ports.getD y_6.2.2.1.toNat ((0 : Int), (0 : Int))).1) (2 : Int)), (h_Ports.getD y_6.2.2.1.toNat ((0 : Int), (0 : Int))).2)))))), .dead]) ((True) ∧ (True)) (by kernel_rfl) (by kernel_rfl) ⟨trivial, trivial⟩ ?_
                    refine KS.opsOf ?_
                    have hq : (True) ∧ (True) := ⟨trivial, trivial⟩
                    refine TOS.run 1 [] (by kernel_rfl) ?_ ?_
                    · apply prop_of ?_ hq
                      kernel_rfl
                    refine TOS.nil (by kernel_rfl) ?_
                    refine XS.blockEnd ?_
                    refine XS.reAny [0, 1, 3] (mkMask 98 [2, 4, 9, 10]) ((0 : Int), (h_Ports.set y_6.2.2.1.toNat ((bitsI .andNot .i64 ((h_Ports.getD y_6.2.2.1.toNat ((0 : Int), (0 : Int))).1) (2 : Int)), (h_Ports.getD y_6.2.2.1.toNat ((0 : Int), (0 : Int))).2))) h ?_
                    kernel_rfl
                  · refine TS.cond (y_6.2.1 == (1 : Int)) ?_ (fun hcz => by rw [c25] at hcz; cases hcz) (fun hcz => ?_)
                    · kernel_rfl
                    refine TS.seq ?_
                    have hq : (True) ∧ ((True) ∧ (True)) := ⟨trivial, ⟨trivial, trivial⟩⟩
                    refine TS.reg [] ?_ ?_
                    · apply prop_of ?_ hq
                      kernel_rfl
                    refine XS.then ?_
                    rcases bif_some h with ⟨c26, h⟩ | ⟨c27, h⟩
                    · refine TS.cond (y_6.2.1 == (8 : Int)) ?_ (fun hcz => ?_) (fun hcz => by rw [c26] at hcz; cases hcz)
                      · kernel_rfl
                      have hq : (True) ∧ ((True) ∧ ((True) ∧ ((y_6.2.2.1.toNat < 16 ∧ (True)) ∧ (True)))) := ⟨trivial, ⟨trivial, ⟨trivial, ⟨⟨inR_lt (inb_ok t11), trivial⟩, trivial⟩⟩⟩⟩
                      refine TS.reg [] ?_ ?_
                      · apply prop_of ?_ hq
                        kernel_rfl
                      refine XS.blockEnd ?_
                      refine XS.then ?_
                      refine TS.seq ?_
                      have hq : (True) ∧ (True) := ⟨trivial, trivial⟩
                      refine TS.reg [] ?_ ?_
                      · apply prop_of ?_ hq
                        kernel_rfl
                      refine XS.then ?_
                      refine TS.ret ?_
                      refine XS.backR 4 (mkTs 98 [(2, (.ptr 0 [])), (4, (.ptr 1 [])), (10, (.ptr 3 []))]) (mkTs 98 [(2, (.ptr 0 [])), (4, (.ptr 1 [])), (10, (.ptr 3 [])), (59, (.int .i64 (0 : Int)))], [(.box 66 (.st (.cons (.int .i64 h_Count) (.arr 16 (.st (.pair (.int .i64) (.int .i64))) h_Ports)))), (.box 66 (.st (.cons (.int .i64 (0 : Int)) (.arr 16 (.st (.pair (.int .i64) (.int .i64))) (List.replicate 16 ((0 : Int), (0 : Int))))))), (.box 101 (.st (.cons (.int .i64 y_6.1) (.cons (.int .i64 y_6.2.1) (.cons (.int .i64 y_6.2.2.1) (.int .i64 y_6.2.2.2.1)))))), (.box 66 (.st (.cons (.int .i64 h_Count) (.arr 16 (.st (.pair (.int .i64) (.int .i64))) (h_Ports.set y_6.2.2.1.toNat ((0 : Int), (h_Ports.getD y_6.2.2.1.toNat ((0 : Int), (0 : Int))).2)))))), .dead]) ((True) ∧ (True)) (by kernel_rfl) (by kernel_rfl) ⟨trivial, trivial⟩ ?_
                      refine KS.opsOf ?_
                      have hq : (True) ∧ (True) := ⟨trivial, trivial⟩
                      refine TOS.run 1 [] (by kernel_rfl) ?_ ?_
                      · apply prop_of ?_ hq
                        kernel_rfl
                      refine TOS.nil (by kernel_rfl) ?_
                      refine XS.blockEnd ?_
                      refine XS.reAny [0, 1, 3] (mkMask 98 [2, 4, 9, 10]) ((0 : Int), (h_Ports.set y_6.2.2.1.toNat ((0 : Int), (h_Ports.getD y_6.2.2.1.toNat ((0 : Int), (0 : Int))).2))) h ?_
                      kernel_rfl
                    · refine TS.cond (y_6.2.1 == (8 : Int)) ?_ (fun hcz => by rw [c27] at hcz; cases hcz) (fun hcz => ?_)
                      · kernel_rfl
                      refine TS.seq ?_
                      have hq : (True) ∧ ((True) ∧ (True)) := ⟨trivial, ⟨trivial, trivial⟩⟩
                      refine TS.reg [] ?_ ?_
                      · apply prop_of ?_ hq
                        kernel_rfl
                      refine XS.then ?_
                      rcases bif_some h with ⟨c28, h⟩ | ⟨c29, h⟩
                      · refine TS.cond (y_6.2.1 == (16 : Int)) ?_ (fun hcz => ?_) (fun hcz => by rw [c28] at hcz; cases hcz)
                        · kernel_rfl
                        have hq : (True) ∧ ((True) ∧ ((True) ∧ ((y_6.2.2.1.toNat < 16 ∧ (True)) ∧ ((True) ∧ ((True) ∧ ((True) ∧ ((y_6.2.2.1.toNat < 16 ∧ (True)) ∧ (True)))))))) := ⟨trivial, ⟨trivial, ⟨trivial, ⟨⟨inR_lt (inb_ok t11), trivial⟩, ⟨trivial, ⟨trivial, ⟨trivial, ⟨⟨inR_lt (inb_ok t11), trivial⟩, trivial⟩⟩⟩⟩⟩⟩⟩⟩
                        refine TS.reg [] ?_ ?_
                        · apply prop_of ?_ hq
                          kernel_rfl
                        refine XS.blockEnd ?_
                        refine XS.then ?_
                        refine TS.seq ?_
                        have hq : (True) ∧ (True) := ⟨trivial, trivial⟩
                        refine TS.reg [] ?_ ?_
                        · apply prop_of ?_ hq
                          kernel_rfl
                        refine XS.then ?_
                        refine TS.ret ?_
                        refine XS.backR 4 (mkTs 98 [(2, (.ptr 0 [])), (4, (.ptr 1 [])), (10, (.ptr 3 []))]) (mkTs 98 [(2, (.ptr 0 [])), (4, (.ptr 1 [])), (10, (.ptr 3 [])), (59, (.int .i64 (0 : Int)))], [(.box 66 (.st (.cons (.int .i64 h_Count) (.arr 16 (.st (.pair (.int .i64) (.int .i64))) h_Ports)))), (.box 66 (.st (.cons (.int .i64 (0 : Int)) (.arr 16 (.st (.pair (.int .i64) (.int .i64))) (List.replicate 16 ((0 : Int), (0 : Int))))))), (.box 101 (.st (.cons (.int .i64 y_6.1) (.cons (.int .i64 y_6.2.1) (.cons (.int .i64 y_6.2.2.1) (.int .i64 y_6.2.2.2.1)))))), (.box 66 (.st (.cons (.int .i64 h_Count) (.arr 16 (.st (.pair (.int .i64) (.int .i64))) (h_Ports.set y_6.2.2.1.toNat ((h_Ports.getD y_6.2.2.1.toNat ((0 : Int), (0 : Int))).1, (bitsI .andNot .i64 ((h_Ports.getD y_6.2.2.1.toNat ((0 : Int), (0 : Int))).2) (1 : Int)))))))), .dead]) ((True) ∧ (True)) (by kernel_rfl) (by kernel_rfl) ⟨trivial, trivial⟩ ?_
                        refine KS.opsOf ?_
                        have hq : (True) ∧ (True) := ⟨trivial, trivial⟩
                        refine TOS.run 1 [] (by kernel_rfl) ?_ ?_
                        · apply prop_of ?_ hq
                          kernel_rfl
                        refine TOS.nil (by kernel_rfl) ?_
                        refine XS.blockEnd ?_
                        refine XS.reAny [0, 1, 3] (mkMask 98 [2, 4, 9, 10]) ((0 : Int), (h_Ports.set y_6.2.2.1.toNat ((h_Ports.getD y_6.2.2.1.toNat ((0 : Int), (0 : Int))).1, (bitsI .andNot .i64 ((h_Ports.getD y_6.2.2.1.toNat ((0 : Int), (0 : Int))).2) (1 : Int))))) h ?_
                        kernel_rfl
                      · refine TS.cond (y_6.2.1 == (16 : Int)) ?_ (fun hcz => by rw [c29] at hcz; cases hcz) (fun hcz => ?_)
                        · kernel_rfl
                        refine TS.seq ?_
                        have hq : (True) ∧ ((True) ∧ (True)) := ⟨trivial, ⟨trivial, trivial⟩⟩
                        refine TS.reg [] ?_ ?_
                        · apply prop_of ?_ hq
                          kernel_rfl
                        refine XS.then ?_
                        rcases bif_some h with ⟨c30, h⟩ | ⟨c31, h⟩
                        · refine TS.cond (y_6.2.1 == (17 : Int)) ?_ (fun hcz => ?_) (fun hcz => by rw [c30] at hcz; cases hcz)
                          · kernel_rfl
                          have hq : (True) ∧ ((True) ∧ ((True) ∧ ((y_6.2.2.1.toNat < 16 ∧ (True)) ∧ ((True) ∧ ((True) ∧ ((True) ∧ ((y_6.2.2.1.toNat < 16 ∧ (True)) ∧ (True)))))))) := ⟨trivial, ⟨trivial, ⟨trivial, ⟨⟨inR_lt (inb_ok t11), trivial⟩, ⟨trivial, ⟨trivial, ⟨trivial, ⟨⟨inR_lt (inb_ok t11), trivial⟩, trivial⟩⟩⟩⟩⟩⟩⟩⟩
                          refine TS.reg [] ?_ ?_
                          · apply prop_of ?_ hq
                            kernel_rfl
                          refine XS.blockEnd ?_
                          refine XS.then ?_
                          refine TS.seq ?_
                          have hq : (True) ∧ (True) := ⟨trivial, trivial⟩
                          refine TS.reg [] ?_ ?_
                          · apply prop_of ?_ hq
                            kernel_rfl
                          refine XS.then ?_
                          refine TS.ret ?_
                          refine XS.backR 4 (mkTs 98 [(2, (.ptr 0 [])), (4, (.ptr 1 [])), (10, (.ptr 3 []))]) (mkTs 98 [(2, (.ptr 0 [])), (4, (.ptr 1 [])), (10, (.ptr 3 [])), (59, (.int .i64 (0 : Int)))], [(.box 66 (.st (.cons (.int .i64 h_Count) (.arr 16 (.st (.pair (.int .i64) (.int .i64))) h_Ports)))), (.box 66 (.st (.cons (.int .i64 (0 : Int)) (.arr 16 (.st (.pair (.int .i64) (.int .i64))) (List.replicate 16 ((0 : Int), (0 : Int))))))), (.box 101 (.st (.cons (.int .i64 y_6.1) (.cons (.int .i64 y_6.2.1) (.cons (.int .i64 y_6.2.2.1) (.int .i64 y_6.2.2.2.1)))))), (.box 66 (.st (.cons (.int .i64 h_Count) (.arr 16 (.st (.pair (.int .i64) (.int .i64))) (h_Ports.set y_6.2.2.1.toNat ((h_Ports.getD y_6.2.2.1.toNat ((0 : Int), (0 : Int))).1, (bitsI .andNot .i64 ((h_Ports.getD y_6.2.2.1.toNat ((0 : Int), (0 : Int))).2) (2 : Int)))))))), .dead]) ((True) ∧ (True)) (by kernel_rfl) (by kernel_rfl) ⟨trivial, trivial⟩ ?_
                          refine KS.opsOf ?_
                          have hq : (True) ∧ (True) := ⟨trivial, trivial⟩
                          refine TOS.run 1 [] (by kernel_rfl) ?_ ?_
                          · apply prop_of ?_ hq
                            kernel_rfl
                          refine TOS.nil (by kernel_rfl) ?_
                          refine XS.blockEnd ?_
                          refine XS.reAny [0, 1, 3] (mkMask 98 [2, 4, 9, 10]) ((0 : Int), (h_Ports.set y_6.2.2.1.toNat ((h_Ports.getD y_6.2.2.1.toNat ((0 : Int), (0 : Int))).1, (bitsI .andNot .i64 ((h_Ports.getD y_6.2.2.1.toNat ((0 : Int), (0 : Int))).2) (2 : Int))))) h ?_
                          kernel_rfl
                        · refine TS.cond (y_6.2.1 == (17 : Int)) ?_ (fun hcz => by rw [c31] at hcz; cases hcz) (fun hcz => ?_)
                          · kernel_rfl
                          refine TS.seq ?_
                          have hq : (True) ∧ ((True) ∧ (True)) := ⟨trivial, ⟨trivial, trivial⟩⟩
                          refine TS.reg [] ?_ ?_
                          · apply prop_of ?_ hq
                            kernel_rfl
                          refine XS.then ?_
                          rcases bif_some h with ⟨c32, h⟩ | ⟨c33, h⟩
                          · refine TS.cond (y_6.2.1 == (20 : Int)) ?_ (fun hcz => ?_) (fun hcz => by rw [c32] at hcz; cases hcz)
                            · kernel_rfl
                            have hq : (True) ∧ ((True) ∧ ((True) ∧ ((y_6.2.2.1.toNat < 16 ∧ (True)) ∧ ((True) ∧ ((True) ∧ ((True) ∧ ((y_6.2.2.1.toNat < 16 ∧ (True)) ∧ (True)))))))) := ⟨trivial, ⟨trivial, ⟨trivial, ⟨⟨inR_lt (inb_ok t11), trivial⟩, ⟨trivial, ⟨trivial, ⟨trivial, ⟨⟨inR_lt (inb_ok t11), trivial⟩, trivial⟩⟩⟩⟩⟩⟩⟩⟩
                            refine TS.reg [] ?_ ?_
                            · apply prop_of ?_ hq
                              kernel_rfl
                            refine XS.blockEnd ?_
                            refine XS.then ?_
                            refine TS.seq ?_
                            have hq : (True) ∧ (True) := ⟨trivial, trivial⟩
                            refine TS.reg [] ?_ ?_
                            · apply prop_of ?_ hq
                              kernel_rfl
                            refine XS.then ?_
                            refine TS.ret ?_
                            refine XS.backR 4 (mkTs 98 [(2, (.ptr 0 [])), (4, (.ptr 1 [])), (10, (.ptr 3 []))]) (mkTs 98 [(2, (.ptr 0 [])), (4, (.ptr 1 [])), (10, (.ptr 3 [])), (59, (.int .i64 (0 : Int)))], [(.box 66 (.st (.cons (.int .i64 h_Count) (.arr 16 (.st (.pair (.int .i64) (.int .i64))) h_Ports)))), (.box 66 (.st (.cons (.int .i64 (0 : Int)) (.arr 16 (.st (.pair (.int .i64) (.int .i64))) (List.replicate 16 ((0 : Int), (0 : Int))))))), (.box 101 (.st (.cons (.int .i64 y_6.1) (.cons (.int .i64 y_6.2.1) (.cons (.int .i64 y_6.2.2.1) (.int .i64 y_6.2.2.2.1)))))), (.box 66 (.st (.cons (.int .i64 h_Count) (.arr 16 (.st (.pair (.int .i64) (.int .i64))) (h_Ports.set y_6.2.2.1.toNat ((h_Ports.getD y_6.2.2.1.toNat ((0 : Int), (0 : Int))).1, (bitsI .andNot .i64 ((h_Ports.getD y_6.2.2.1.toNat ((0 : Int), (0 : Int))).2) (16 : Int)))))))), .dead]) ((True) ∧ (True)) (by kernel_rfl) (by kernel_rfl) ⟨trivial, trivial⟩ ?_
                            refine KS.opsOf ?_
                            have hq : (True) ∧ (True) := ⟨trivial, trivial⟩
                            refine TOS.run 1 [] (by kernel_rfl) ?_ ?_
                            · apply prop_of ?_ hq
                              kernel_rfl
                            refine TOS.nil (by kernel_rfl) ?_
                            refine XS.blockEnd ?_
                            refine XS.reAny [0, 1, 3] (mkMask 98 [2, 4, 9, 10]) ((0 : Int), (h_Ports.set y_6.2.2.1.toNat ((h_Ports.getD y_6.2.2.1.toNat ((0 : Int), (0 : Int))).1, (bitsI .andNot .i64 ((h_Ports.getD y_6.2.2.1.toNat ((0 : Int), (0 : Int))).2) (16 : Int))))) h ?_
                            kernel_rfl
                          · refine TS.cond (y_6.2.1 == (20 : Int)) ?_ (fun hcz => by rw [c33] at hcz; cases hcz) (fun hcz => ?_)
                            · kernel_rfl
                            refine TS.seq ?_
                            have hq : (True) ∧ (True) := ⟨trivial, trivial⟩
                            refine TS.reg [] ?_ ?_
                            · apply prop_of ?_ hq
                              kernel_rfl
                            refine XS.then ?_
                            refine TS.ret ?_
                            refine XS.blockRet ?_
                            refine XS.passR ?_
                            refine XS.backR 4 (mkTs 98 [(2, (.ptr 0 [])), (4, (.ptr 1 [])), (10, (.ptr 3 []))]) (mkTs 98 [(2, (.ptr 0 [])), (4, (.ptr 1 [])), (10, (.ptr 3 [])), (59, (.int .i64 (8 : Int)))], [(.box 66 (.st (.cons (.int .i64 h_Count) (.arr 16 (.st (.pair (.int .i64) (.int .i64))) h_Ports)))), (.box 66 (.st (.cons (.int .i64 (0 : Int)) (.arr 16 (.st (.pair (.int .i64) (.int .i64))) (List.replicate 16 ((0 : Int), (0 : Int))))))), (.box 101 (.st (.cons (.int .i64 y_6.1) (.cons (.int .i64 y_6.2.1) (.cons (.int .i64 y_6.2.2.1) (.int .i64 y_6.2.2.2.1)))))), (.box 66 (.st (.cons (.int .i64 h_Count) (.arr 16 (.st (.pair (.int .i64) (.int .i64))) h_Ports)))), .dead]) ((True) ∧ (True)) (by kernel_rfl) (by kernel_rfl) ⟨trivial, trivial⟩ ?_
                            refine KS.opsOf ?_
                            have hq : (True) ∧ (True) := ⟨trivial, trivial⟩
                            refine TOS.run 1 [] (by kernel_rfl) ?_ ?_
                            · apply prop_of ?_ hq
                              kernel_rfl
                            refine TOS.nil (by kernel_rfl) ?_
                            refine XS.blockEnd ?_
                            refine XS.reAny [0, 1, 3] (mkMask 98 [2, 4, 9, 10]) ((8 : Int), h_Ports) h ?_
                            kernel_rfl
      · rcases bif_some h with ⟨c34, h⟩ | ⟨c35, h⟩
        · rcases bif_some h with ⟨c36, h⟩ | ⟨c37, h⟩
          · have hq : (True) ∧ ((True) ∧ ((True) ∧ (((True) ∧ (y_6.1 != (8 : Int)) = true) ∧ ((True) ∧ ((True) ∧ ((True) ∧ ((True) ∧ (((True) ∧ (y_6.1 != (9 : Int)) = true) ∧ ((True) ∧ ((True) ∧ ((True) ∧ ((True) ∧ ((True) ∧ (True)))))))))))))) := ⟨trivial, ⟨trivial, ⟨trivial, ⟨⟨trivial, c34⟩, ⟨trivial, ⟨trivial, ⟨trivial, ⟨trivial, ⟨⟨trivial, c36⟩, ⟨trivial, ⟨trivial, ⟨trivial, ⟨trivial, ⟨trivial, trivial⟩⟩⟩⟩⟩⟩⟩⟩⟩⟩⟩⟩⟩⟩
            refine TS.reg [.none, .none, .none, .dec true, .none, .none, .none, .none, .dec true] ?_ ?_
            · apply prop_of ?_ hq
              kernel_rfl
            refine XS.reAny [0, 1, 2] (mkMask 98 [2, 4, 8, 27]) (y_6.1 != (10 : Int)) h ?_
            kernel_rfl
          · have hq : (True) ∧ ((True) ∧ ((True) ∧ (((True) ∧ (y_6.1 != (8 : Int)) = true) ∧ ((True) ∧ ((True) ∧ ((True) ∧ ((True) ∧ (((True) ∧ (y_6.1 != (9 : Int)) = false) ∧ ((True) ∧ ((True) ∧ (True))))))))))) := ⟨trivial, ⟨trivial, ⟨trivial, ⟨⟨trivial, c34⟩, ⟨trivial, ⟨trivial, ⟨trivial, ⟨trivial, ⟨⟨trivial, c37⟩, ⟨trivial, ⟨trivial, trivial⟩⟩⟩⟩⟩⟩⟩⟩⟩⟩⟩
            refine TS.reg [.none, .none, .none, .dec true, .none, .none, .none, .none, .dec false] ?_ ?_
            · apply prop_of ?_ hq
              kernel_rfl
            refine XS.reAny [0, 1, 2] (mkMask 98 [2, 4, 8, 27]) false h ?_
            kernel_rfl
        · have hq : (True) ∧ ((True) ∧ ((True) ∧ (((True) ∧ (y_6.1 != (8 : Int)) = false) ∧ ((True) ∧ ((True) ∧ ((True) ∧ ((True) ∧ (True)))))))) := ⟨trivial, ⟨trivial, ⟨trivial, ⟨⟨trivial, c35⟩, ⟨trivial, ⟨trivial, ⟨trivial, ⟨trivial, trivial⟩⟩⟩⟩⟩⟩⟩⟩
          refine TS.reg [.none, .none, .none, .dec false] ?_ ?_
          · apply prop_of ?_ hq
            kernel_rfl
          refine XS.reAny [0, 1, 2] (mkMask 98 [2, 4, 8, 27]) false h ?_
          kernel_rfl

/-! plugtree/plugref.Between -/
def F15 (n : Nat) (vn : Int) (low : Int) (high : Int) : Option Bool := (bif (decide (low ≤ vn)) then (some (decide (vn ≤ high))) else (some false))
theorem F15_ok (n : Nat) (vn : Int) (low : Int) (high : Int) (r : Bool) (h : F15 n vn low high = some r) : PureC Try.prog 15 [(.int .i64 vn), (.int .i64 low), (.int .i64 high)] (.bool r) [] := by
  refine PureC.mkS Try.func15 rfl rfl ?_
  intro w0 fz0 hfz
  replace h : (bif (decide (low ≤ vn)) then (some (decide (vn ≤ high))) else (some false)) = some r := h
  refine TS.seq ?_
  have hq : (True) ∧ (True) := ⟨trivial, trivial⟩
  refine TS.reg [] ?_ ?_
  · apply prop_of ?_ hq
    kernel_rfl
  refine XS.then ?_
  refine TS.seq ?_
  rcases bif_some h with ⟨c1, h⟩ | ⟨c2, h⟩
  · have hq : (True) ∧ ((True) ∧ ((True) ∧ (((True) ∧ (decide (low ≤ vn)) = true) ∧ ((True) ∧ ((True) ∧ ((True) ∧ ((True) ∧ ((True) ∧ (True))))))))) := ⟨trivial, ⟨trivial, ⟨trivial, ⟨⟨trivial, c1⟩, ⟨trivial, ⟨trivial, ⟨trivial, ⟨trivial, ⟨trivial, trivial⟩⟩⟩⟩⟩⟩⟩⟩⟩
    refine TS.reg [.none, .none, .none, .dec true] ?_ ?_
    · apply prop_of ?_ hq
      kernel_rfl
    refine XS.then ?_
    refine TS.ret ?_
    obtain rfl : (decide (vn ≤ high)) = r := Option.some.inj h
    exact XS.fin [] ((True) ∧ (True)) (by kernel_rfl) ⟨trivial, trivial⟩
  · have hq : (True) ∧ ((True) ∧ ((True) ∧ (((True) ∧ (decide (low ≤ vn)) = false) ∧ ((True) ∧ ((True) ∧ (True)))))) := ⟨trivial, ⟨trivial, ⟨trivial, ⟨⟨trivial, c2⟩, ⟨trivial, ⟨trivial, trivial⟩⟩⟩⟩⟩⟩
    refine TS.reg [.none, .none, .none, .dec false] ?_ ?_
    · apply prop_of ?_ hq
      kernel_rfl
    refine XS.then ?_
    refine TS.ret ?_
    obtain rfl : false = r := Option.some.inj h
    exact XS.fin [] ((True) ∧ (True)) (by kernel_rfl) ⟨trivial, trivial⟩

/-! plugtree/plugref.status -/
def F153 (n : Nat) (vn : Int) : Option Bool := (bif (vn == (0 : Int)) then (some true) else (bif (vn == (256 : Int)) then (some true) else (bif (vn == (257 : Int)) then (some true) else (bif (vn == (259 : Int)) then (some true) else (some (vn == (273 : Int)))))))
theorem F153_ok (n : Nat) (vn : Int) (r : Bool) (h : F153 n vn = some r) : PureC Try.prog 153 [(.int .i64 vn)] (.bool r) [] := by
  refine PureC.mkS Try.func153 rfl rfl ?_
  intro w0 fz0 hfz
  replace h : (bif (vn == (0 : Int)) then (some true) else (bif (vn == (256 : Int)) then (some true) else (bif (vn == (257 : Int)) then (some true) else (bif (vn == (259 : Int)) then (some true) else (some (vn == (273 : Int))))))) = some r := h
  refine TS.seq ?_
  have hq : (True) ∧ (True) := ⟨trivial, trivial⟩
  refine TS.reg [] ?_ ?_
  · apply prop_of ?_ hq
    kernel_rfl
  refine XS.then ?_
  refine TS.seq ?_
  rcases bif_some h with ⟨c1, h⟩ | ⟨c2, h⟩
  · have hq : (True) ∧ ((True) ∧ (((True) ∧ (vn == (0 : Int)) = true) ∧ ((True) ∧ ((True) ∧ ((True) ∧ ((True) ∧ ((True) ∧ ((True) ∧ ((True) ∧ ((True) ∧ (True))))))))))) := ⟨trivial, ⟨trivial, ⟨⟨trivial, c1⟩, ⟨trivial, ⟨trivial, ⟨trivial, ⟨trivial, ⟨trivial, ⟨trivial, ⟨trivial, ⟨trivial, trivial⟩⟩⟩⟩⟩⟩⟩⟩⟩⟩⟩
    refine TS.reg [.none, .none, .dec true] ?_ ?_
    · apply prop_of ?_ hq
      kernel_rfl
    refine XS.then ?_
    refine TS.ret ?_
    obtain rfl : true = r := Option.some.inj h
    exact XS.fin [] ((True) ∧ (True)) (by kernel_rfl) ⟨trivial, trivial⟩
  · rcases bif_some h with ⟨c3, h⟩ | ⟨c4, h⟩
    · have hq : (True) ∧ ((True) ∧ (((True) ∧ (vn == (0 : Int)) = false) ∧ ((True) ∧ ((True) ∧ ((True) ∧ (((True) ∧ (vn == (256 : Int)) = true) ∧ ((True) ∧ ((True) ∧ ((True) ∧ ((True) ∧ ((True) ∧ ((True) ∧ (True))))))))))))) := ⟨trivial, ⟨trivial, ⟨⟨trivial, c2⟩, ⟨trivial, ⟨trivial, ⟨trivial, ⟨⟨trivial, c3⟩, ⟨trivial, ⟨trivial, ⟨trivial, ⟨trivial, ⟨trivial, ⟨trivial, trivial⟩⟩⟩⟩⟩⟩⟩⟩⟩⟩⟩⟩⟩
      refine TS.reg [.none, .none, .dec false, .none, .none, .none, .dec true] ?_ ?_
      · apply prop_of ?_ hq
        kernel_rfl
      refine XS.then ?_
      refine TS.ret ?_
      obtain rfl : true = r := Option.some.inj h
      exact XS.fin [] ((True) ∧ (True)) (by kernel_rfl) ⟨trivial, trivial⟩
    · rcases bif_some h with ⟨c5, h⟩ | ⟨c6, h⟩
      · have hq : (True) ∧ ((True) ∧ (((True) ∧ (vn == (0 : Int)) = false) ∧ ((True) ∧ ((True) ∧ ((True) ∧ (((True) ∧ (vn == (256 : Int)) = false) ∧ ((True) ∧ ((True) ∧ ((True) ∧ (((True) ∧ (vn == (257 : Int)) = true) ∧ ((True) ∧ ((True) ∧ ((True) ∧ ((True) ∧ (True))))))))))))))) := ⟨trivial, ⟨trivial, ⟨⟨trivial, c2⟩, ⟨trivial, ⟨trivial, ⟨trivial, ⟨⟨trivial, c4⟩, ⟨trivial, ⟨trivial, ⟨trivial, ⟨⟨trivial, c5⟩, ⟨trivial, ⟨trivial, ⟨trivial, ⟨trivial, trivial⟩⟩⟩⟩⟩⟩⟩⟩⟩⟩⟩⟩⟩⟩⟩
        refine TS.reg [.none, .none, .dec false, .none, .none, .none, .dec false, .none, .none, .none, .dec true] ?_ ?_
        · apply prop_of ?_ hq
          kernel_rfl
        refine XS.then ?_
        refine TS.ret ?_
        obtain rfl : true = r := Option.some.inj h
        exact XS.fin [] ((True) ∧ (True)) (by kernel_rfl) ⟨trivial, trivial⟩
      · rcases bif_some h with ⟨c7, h⟩ | ⟨c8, h⟩
        · have hq : (True) ∧ ((True) ∧ (((True) ∧ (vn == (0 : Int)) = false) ∧ ((True) ∧ ((True) ∧ ((True) ∧ (((True) ∧ (vn == (256 : Int)) = false) ∧ ((True) ∧ ((True) ∧ ((True) ∧ (((True) ∧ (vn == (257 : Int)) = false) ∧ ((True) ∧ ((True) ∧ ((True) ∧ (((True) ∧ (vn == (259 : Int)) = true) ∧ ((True) ∧ ((True) ∧ (True))))))))))))))))) := ⟨trivial, ⟨trivial, ⟨⟨trivial, c2⟩, ⟨trivial, ⟨trivial, ⟨trivial, ⟨⟨trivial, c4⟩, ⟨trivial, ⟨trivial, ⟨trivial, ⟨⟨trivial, c6⟩, ⟨trivial, ⟨trivial, ⟨trivial, ⟨⟨trivial, c7⟩, ⟨trivial, ⟨trivial, trivial⟩⟩⟩⟩⟩⟩⟩⟩⟩⟩⟩⟩⟩⟩⟩⟩⟩
          refine TS.reg [.none, .none, .dec false, .none, .none, .none, .dec false, .none, .none, .none, .dec false, .none, .none, .none, .dec true] ?_ ?_
          · apply prop_of ?_ hq
            kernel_rfl
          refine XS.then ?_
          refine TS.ret ?_
          obtain rfl : true = r := Option.some.inj h
          exact XS.fin [] ((True) ∧ (True)) (by kernel_rfl) ⟨trivial, trivial⟩
        · have hq : (True) ∧ ((True) ∧ (((True) ∧ (vn == (0 : Int)) = false) ∧ ((True) ∧ ((True) ∧ ((True) ∧ (((True) ∧ (vn == (256 : Int)) = false) ∧ ((True) ∧ ((True) ∧ ((True) ∧ (((True) ∧ (vn == (257 : Int)) = false) ∧ ((True) ∧ ((True) ∧ ((True) ∧ (((True) ∧ (vn == (259 : Int)) = false) ∧ ((True) ∧ ((True) ∧ ((True) ∧ ((True) ∧ (True))))))))))))))))))) := ⟨trivial, ⟨trivial, ⟨⟨trivial, c2⟩, ⟨trivial, ⟨trivial, ⟨trivial, ⟨⟨trivial, c4⟩, ⟨trivial, ⟨trivial, ⟨trivial, ⟨⟨trivial, c6⟩, ⟨trivial, ⟨trivial, ⟨trivial, ⟨⟨trivial, c8⟩, ⟨trivial, ⟨trivial, ⟨trivial, ⟨trivial, trivial⟩⟩⟩⟩⟩⟩⟩⟩⟩⟩⟩⟩⟩⟩⟩⟩⟩⟩⟩
          refine TS.reg [.none, .none, .dec false, .none, .none, .none, .dec false, .none, .none, .none, .dec false, .none, .none, .none, .dec false] ?_ ?_
          · apply prop_of ?_ hq
            kernel_rfl
          refine XS.then ?_
          refine TS.ret ?_
          obtain rfl : (vn == (273 : Int)) = r := Option.some.inj h
          exact XS.fin [] ((True) ∧ (True)) (by kernel_rfl) ⟨trivial, trivial⟩

/-! plugtree/plugref.changed -/
def F154 (n : Nat) (vn : Int) : Option Bool := ((F15 n vn (0 : Int) (3 : Int)).bind fun y_2 => (bif y_2 then (some true) else ((F15 n vn (16 : Int) (19 : Int)).bind fun y_3 => (some y_3))))
theorem F154_ok (n : Nat) (vn : Int) (r : Bool) (h : F154 n vn = some r) : PureC Try.prog 154 [(.int .i64 vn)] (.bool r) [] := by
  refine PureC.mkS Try.func154 rfl rfl ?_
  intro w0 fz0 hfz
  replace h : ((F15 n vn (0 : Int) (3 : Int)).bind fun y_2 => (bif y_2 then (some true) else ((F15 n vn (16 : Int) (19 : Int)).bind fun y_3 => (some y_3)))) = some r := h
  refine TS.seq ?_
  have hq : (True) ∧ (True) := ⟨trivial, trivial⟩
  refine TS.reg [] ?_ ?_
  · apply prop_of ?_ hq
    kernel_rfl
  refine XS.then ?_
  refine TS.seq ?_
  obtain ⟨y_2, hx1, h⟩ := bind_some' h
  rcases bif_some h with ⟨c2, h⟩ | ⟨c3, h⟩
  · have hq : (True) ∧ ((PureC Try.prog 15 [(.int .i64 vn), (.int .i64 (0 : Int)), (.int .i64 (3 : Int))] (.bool y_2) []) ∧ (((True) ∧ y_2 = true) ∧ ((True) ∧ ((True) ∧ (True))))) := ⟨trivial, ⟨F15_ok n vn (0 : Int) (3 : Int) y_2 hx1, ⟨⟨trivial, c2⟩, ⟨trivial, ⟨trivial, trivial⟩⟩⟩⟩⟩
    refine TS.reg [.none, (.call (.bool y_2) []), .dec true] ?_ ?_
    · apply prop_of ?_ hq
      kernel_rfl
    refine XS.then ?_
    refine TS.ret ?_
    obtain rfl : true = r := Option.some.inj h
    exact XS.fin [] ((True) ∧ (True)) (by kernel_rfl) ⟨trivial, trivial⟩
  · obtain ⟨y_3, hx4, h⟩ := bind_some' h
    have hq : (True) ∧ ((PureC Try.prog 15 [(.int .i64 vn), (.int .i64 (0 : Int)), (.int .i64 (3 : Int))] (.bool y_2) []) ∧ (((True) ∧ y_2 = false) ∧ ((True) ∧ ((PureC Try.prog 15 [(.int .i64 vn), (.int .i64 (16 : Int)), (.int .i64 (19 : Int))] (.bool y_3) []) ∧ ((True) ∧ ((True) ∧ (True))))))) := ⟨trivial, ⟨F15_ok n vn (0 : Int) (3 : Int) y_2 hx1, ⟨⟨trivial, c3⟩, ⟨trivial, ⟨F15_ok n vn (16 : Int) (19 : Int) y_3 hx4, ⟨trivial, ⟨trivial, trivial⟩⟩⟩⟩⟩⟩⟩
    refine TS.reg [.none, (.call (.bool y_2) []), .dec false, .none, (.call (.bool y_3) [])] ?_ ?_
    · apply prop_of ?_ hq
      kernel_rfl
    refine XS.then ?_
    refine TS.ret ?_
    obtain rfl : y_3 = r := Option.some.inj h
    exact XS.fin [] ((True) ∧ (True)) (by kernel_rfl) ⟨trivial, trivial⟩

/-! plugtree/plugref.Hub -/
def F92_l2 (n : Nat) (h_Count : Int) (h_Ports : List (Int × Int)) (k92_2 : Int → Option Int) : Int → Option Int
  | x => (bif (decide (x < (16 : Int))) then (bif inb x 16 then ((F153 n ((h_Ports.getD x.toNat ((0 : Int), (0 : Int))).1)).bind fun y_3 => (bif (!y_3) then (some (4 : Int)) else ((F154 n ((h_Ports.getD x.toNat ((0 : Int), (0 : Int))).2)).bind fun y_4 => (bif (!y_4) then (some (4 : Int)) else ((F15 n x (1 : Int) h_Count).bind fun y_5 => (bif (!y_5) then (bif ((IntKind.wrap .i64 ((h_Ports.getD x.toNat ((0 : Int), (0 : Int))).1 + (h_Ports.getD x.toNat ((0 : Int), (0 : Int))).2)) != (0 : Int)) then (some (4 : Int)) else (k92_2 (IntKind.wrap .i64 (x + (1 : Int))))) else (k92_2 (IntKind.wrap .i64 (x + (1 : Int)))))))))) else none) else (some (0 : Int)))
def F92 (n : Nat) (h_Count : Int) (h_Ports : List (Int × Int)) : Option Int := ((F15 n h_Count (1 : Int) (15 : Int)).bind fun y_2 => (bif (!y_2) then (some (1 : Int)) else (loopF (F92_l2 n h_Count h_Ports) n (0 : Int))))
theorem F92_ok (n : Nat) (h_Count : Int) (h_Ports : List (Int × Int)) (r : Int) (h : F92 n h_Count h_Ports = some r) : PureC Try.prog 92 [(.st (.cons (.int .i64 h_Count) (.arr 16 (.st (.pair (.int .i64) (.int .i64))) h_Ports)))] (.int .i64 r) [] := by
  refine PureC.mkS Try.func92 rfl rfl ?_
  intro w0 fz0 hfz
  replace h : ((F15 n h_Count (1 : Int) (15 : Int)).bind fun y_2 => (bif (!y_2) then (some (1 : Int)) else (loopF (F92_l2 n h_Count h_Ports) n (0 : Int)))) = some r := h
  refine TS.seq ?_
  have hq : (True) ∧ ((True) ∧ (True)) := ⟨trivial, ⟨trivial, trivial⟩⟩
  refine TS.reg [] ?_ ?_
  · apply prop_of ?_ hq
    kernel_rfl
  refine XS.then ?_
  refine TS.seq ?_
  refine TS.seq ?_
  obtain ⟨y_2, hx1, h⟩ := bind_some' h
  have hq : (True) ∧ ((True) ∧ ((PureC Try.prog 15 [(.int .i64 h_Count), (.int .i64 (1 : Int)), (.int .i64 (15 : Int))] (.bool y_2) []) ∧ ((True) ∧ (True)))) := ⟨trivial, ⟨trivial, ⟨F15_ok n h_Count (1 : Int) (15 : Int) y_2 hx1, ⟨trivial, trivial⟩⟩⟩⟩
  refine TS.reg [.none, .none, (.call (.bool y_2) [])] ?_ ?_
  · apply prop_of ?_ hq
    kernel_rfl
  refine XS.then ?_
  rcases bif_some h with ⟨c2, h⟩ | ⟨c3, h⟩
  · refine TS.cond (!y_2) ?_ (fun hcz => ?_) (fun hcz => by rw [c2] at hcz; cases hcz)
    · kernel_rfl
    refine TS.seq ?_
    have hq : (True) ∧ (True) := ⟨trivial, trivial⟩
    refine TS.reg [] ?_ ?_
    · apply prop_of ?_ hq
      kernel_rfl
    refine XS.then ?_
    refine TS.ret ?_
    refine XS.passR ?_
    obtain rfl : (1 : Int) = r := Option.some.inj h
    exact XS.fin [] ((True) ∧ (True)) (by kernel_rfl) ⟨trivial, trivial⟩
  · refine TS.cond (!y_2) ?_ (fun hcz => by rw [c3] at hcz; cases hcz) (fun hcz => ?_)
    · kernel_rfl
    refine TS.skip ?_
    refine XS.then ?_
    refine TS.seq ?_
    refine TS.seq ?_
    have hq : (True) ∧ ((True) ∧ ((True) ∧ (True))) := ⟨trivial, ⟨trivial, ⟨trivial, trivial⟩⟩⟩
    refine TS.reg [] ?_ ?_
    · apply prop_of ?_ hq
      kernel_rfl
    refine XS.then ?_
    refine TS.block ?_
    refine TS.reLoop [0] (mkMask 41 [1, 10, 11]) (D := Int) (fun d => match d with | x => (mkTs 41 [(1, (.ptr 0 [])), (10, (.arr 16 (.st (.pair (.int .i64) (.int .i64))) h_Ports)), (11, (.int .i64 x))], [(.box 66 (.st (.cons (.int .i64 h_Count) (.arr 16 (.st (.pair (.int .i64) (.int .i64))) h_Ports))))])) (fun n' d => loopF (F92_l2 n h_Count h_Ports) n' d = some r) n (0 : Int) h ?_ (fun d => loopF_zero _ d r) ?_
    · kernel_rfl
    · rintro n2 x h
      replace h : (bif (decide (x < (16 : Int))) then (bif inb x 16 then ((F153 n ((h_Ports.getD x.toNat ((0 : Int), (0 : Int))).1)).bind fun y_3 => (bif (!y_3) then (some (4 : Int)) else ((F154 n ((h_Ports.getD x.toNat ((0 : Int), (0 : Int))).2)).bind fun y_4 => (bif (!y_4) then (some (4 : Int)) else ((F15 n x (1 : Int) h_Count).bind fun y_5 => (bif (!y_5) then (bif ((IntKind.wrap .i64 ((h_Ports.getD x.toNat ((0 : Int), (0 : Int))).1 + (h_Ports.getD x.toNat ((0 : Int), (0 : Int))).2)) != (0 : Int)) then (some (4 : Int)) else ((loopF (F92_l2 n h_Count h_Ports) n2) (IntKind.wrap .i64 (x + (1 : Int))))) else ((loopF (F92_l2 n h_Count h_Ports) n2) (IntKind.wrap .i64 (x + (1 : Int)))))))))) else none) else (some (0 : Int))) = some r := h
      refine TS.seq ?_
      have hq : (True) ∧ (True) := ⟨trivial, trivial⟩
      refine TS.reg [] ?_ ?_
      · apply prop_of ?_ hq
        kernel_rfl
      refine XS.then ?_
      refine TS.seq ?_
      rcases bif_some h with ⟨c4, h⟩ | ⟨c5, h⟩
      · refine TS.cond (decide (x < (16 : Int))) ?_ (fun hcz => ?_) (fun hcz => by rw [c4] at hcz; cases hcz)
        · kernel_rfl
        refine TS.skip ?_
        refine XS.then ?_
        refine TS.seq ?_
        refine TS.block ?_
        refine TS.seq ?_
        obtain ⟨t6, h⟩ := test_some h
        have hq : (True) ∧ ((inR x 16) ∧ ((True) ∧ ((True) ∧ ((True) ∧ (True))))) := ⟨trivial, ⟨inb_ok t6, ⟨trivial, ⟨trivial, ⟨trivial, trivial⟩⟩⟩⟩⟩
        refine TS.reg [] ?_ ?_
        · apply prop_of ?_ hq
          kernel_rfl
        refine XS.then ?_
        refine TS.seq ?_
        obtain ⟨y_3, hx7, h⟩ := bind_some' h
        rcases bif_some h with ⟨c8, h⟩ | ⟨c9, h⟩
        · have hq : (True) ∧ ((True) ∧ ((PureC Try.prog 153 [(.int .i64 (h_Ports.getD x.toNat ((0 : Int), (0 : Int))).1)] (.bool y_3) []) ∧ ((True) ∧ (((True) ∧ (!y_3) = true) ∧ ((True) ∧ ((True) ∧ ((True) ∧ (True)))))))) := ⟨trivial, ⟨trivial, ⟨F153_ok n ((h_Ports.getD x.toNat ((0 : Int), (0 : Int))).1) y_3 hx7, ⟨trivial, ⟨⟨trivial, c8⟩, ⟨trivial, ⟨trivial, ⟨trivial, trivial⟩⟩⟩⟩⟩⟩⟩⟩
          refine TS.reg [.none, .none, (.call (.bool y_3) []), .none, .dec true] ?_ ?_
          · apply prop_of ?_ hq
            kernel_rfl
          refine XS.then ?_
          refine TS.yes ?_ ?_
          · kernel_rfl
          refine TS.seq ?_
          have hq : (True) ∧ (True) := ⟨trivial, trivial⟩
          refine TS.reg [] ?_ ?_
          · apply prop_of ?_ hq
            kernel_rfl
          refine XS.then ?_
          refine TS.ret ?_
          refine XS.blockRet ?_
          refine XS.passR ?_
          refine XS.passR ?_
          refine XS.blockRet ?_
          refine XS.passR ?_
          obtain rfl : (4 : Int) = r := Option.some.inj h
          exact XS.fin [] ((True) ∧ (True)) (by kernel_rfl) ⟨trivial, trivial⟩
        · obtain ⟨y_4, hx10, h⟩ := bind_some' h
          rcases bif_some h with ⟨c11, h⟩ | ⟨c12, h⟩
          · have hq : (True) ∧ ((True) ∧ ((PureC Try.prog 153 [(.int .i64 (h_Ports.getD x.toNat ((0 : Int), (0 : Int))).1)] (.bool y_3) []) ∧ ((True) ∧ (((True) ∧ (!y_3) = false) ∧ ((True) ∧ ((True) ∧ ((PureC Try.prog 154 [(.int .i64 (h_Ports.getD x.toNat ((0 : Int), (0 : Int))).2)] (.bool y_4) []) ∧ ((True) ∧ ((True) ∧ (((True) ∧ (!y_4) = true) ∧ ((True) ∧ (True)))))))))))) := ⟨trivial, ⟨trivial, ⟨F153_ok n ((h_Ports.getD x.toNat ((0 : Int), (0 : Int))).1) y_3 hx7, ⟨trivial, ⟨⟨trivial, c9⟩, ⟨trivial, ⟨trivial, ⟨F154_ok n ((h_Ports.getD x.toNat ((0 : Int), (0 : Int))).2) y_4 hx10, ⟨trivial, ⟨trivial, ⟨⟨trivial, c11⟩, ⟨trivial, trivial⟩⟩⟩⟩⟩⟩⟩⟩⟩⟩⟩⟩
            refine TS.reg [.none, .none, (.call (.bool y_3) []), .none, .dec false, .none, .none, (.call (.bool y_4) []), .none, .none, .dec true] ?_ ?_
            · apply prop_of ?_ hq
              kernel_rfl
            refine XS.then ?_
            refine TS.yes ?_ ?_
            · kernel_rfl
            refine TS.seq ?_
            have hq : (True) ∧ (True) := ⟨trivial, trivial⟩
            refine TS.reg [] ?_ ?_
            · apply prop_of ?_ hq
              kernel_rfl
            refine XS.then ?_
            refine TS.ret ?_
            refine XS.blockRet ?_
            refine XS.passR ?_
            refine XS.passR ?_
            refine XS.blockRet ?_
            refine XS.passR ?_
            obtain rfl : (4 : Int) = r := Option.some.inj h
            exact XS.fin [] ((True) ∧ (True)) (by kernel_rfl) ⟨trivial, trivial⟩
          · obtain ⟨y_5, hx13, h⟩ := bind_some' h
            rcases bif_some h with ⟨c14, h⟩ | ⟨c15, h⟩
            · have hq : (True) ∧ ((True) ∧ ((PureC Try.prog 153 [(.int .i64 (h_Ports.getD x.toNat ((0 : Int), (0 : Int))).1)] (.bool y_3) []) ∧ ((True) ∧ (((True) ∧ (!y_3) = false) ∧ ((True) ∧ ((True) ∧ ((PureC Try.prog 154 [(.int .i64 (h_Ports.getD x.toNat ((0 : Int), (0 : Int))).2)] (.bool y_4) []) ∧ ((True) ∧ ((True) ∧ (((True) ∧ (!y_4) = false) ∧ ((True) ∧ ((True) ∧ ((True) ∧ ((PureC Try.prog 15 [(.int .i64 x), (.int .i64 (1 : Int)), (.int .i64 h_Count)] (.bool y_5) []) ∧ ((True) ∧ (((True) ∧ (!y_5) = true) ∧ ((True) ∧ ((True) ∧ ((True) ∧ ((True) ∧ ((True) ∧ ((True) ∧ ((True) ∧ ((True) ∧ (True))))))))))))))))))))))))) := ⟨trivial, ⟨trivial, ⟨F153_ok n ((h_Ports.getD x.toNat ((0 : Int), (0 : Int))).1) y_3 hx7, ⟨trivial, ⟨⟨trivial, c9⟩, ⟨trivial, ⟨trivial, ⟨F154_ok n ((h_Ports.getD x.toNat ((0 : Int), (0 : Int))).2) y_4 hx10, ⟨trivial, ⟨trivial, ⟨⟨trivial, c12⟩, ⟨trivial, ⟨trivial, ⟨trivial, ⟨F15_ok n x (1 : Int) h_Count y_5 hx13, ⟨trivial, ⟨⟨trivial, c14⟩, ⟨trivial, ⟨trivial, ⟨trivial, ⟨trivial, ⟨trivial, ⟨trivial, ⟨trivial, ⟨trivial, trivial⟩⟩⟩⟩⟩⟩⟩⟩⟩⟩⟩⟩⟩⟩⟩⟩⟩⟩⟩⟩⟩⟩⟩⟩⟩
              refine TS.reg [.none, .none, (.call (.bool y_3) []), .none, .dec false, .none, .none, (.call (.bool y_4) []), .none, .none, .dec false, .none, .none, .none, (.call (.bool y_5) []), .none, .dec true] ?_ ?_
              · apply prop_of ?_ hq
                kernel_rfl
              refine XS.then ?_
              rcases bif_some h with ⟨c16, h⟩ | ⟨c17, h⟩
              · refine TS.cond ((IntKind.wrap .i64 ((h_Ports.getD x.toNat ((0 : Int), (0 : Int))).1 + (h_Ports.getD x.toNat ((0 : Int), (0 : Int))).2)) != (0 : Int)) ?_ (fun hcz => ?_) (fun hcz => by rw [c16] at hcz; cases hcz)
                · kernel_rfl
                refine TS.seq ?_
                have hq : (True) ∧ (True) := ⟨trivial, trivial⟩
                refine TS.reg [] ?_ ?_
                · apply prop_of ?_ hq
                  kernel_rfl
                refine XS.then ?_
                refine TS.ret ?_
                refine XS.blockRet ?_
                refine XS.passR ?_
                refine XS.passR ?_
                refine XS.blockRet ?_
                refine XS.passR ?_
                obtain rfl : (4 : Int) = r := Option.some.inj h
                exact XS.fin [] ((True) ∧ (True)) (by kernel_rfl) ⟨trivial, trivial⟩
              · refine TS.cond ((IntKind.wrap .i64 ((h_Ports.getD x.toNat ((0 : Int), (0 : Int))).1 + (h_Ports.getD x.toNat ((0 : Int), (0 : Int))).2)) != (0 : Int)) ?_ (fun hcz => by rw [c17] at hcz; cases hcz) (fun hcz => ?_)
                · kernel_rfl
                refine TS.skip ?_
                refine XS.blockEnd ?_
                refine XS.then ?_
                have hq : (True) ∧ ((True) ∧ (True)) := ⟨trivial, ⟨trivial, trivial⟩⟩
                refine TS.reg [] ?_ ?_
                · apply prop_of ?_ hq
                  kernel_rfl
                refine XS.reAny [0] (mkMask 41 [1, 10, 11]) (IntKind.wrap .i64 (x + (1 : Int))) h ?_
                kernel_rfl
            · have hq : (True) ∧ ((True) ∧ ((PureC Try.prog 153 [(.int .i64 (h_Ports.getD x.toNat ((0 : Int), (0 : Int))).1)] (.bool y_3) []) ∧ ((True) ∧ (((True) ∧ (!y_3) = false) ∧ ((True) ∧ ((True) ∧ ((PureC Try.prog 154 [(.int .i64 (h_Ports.getD x.toNat ((0 : Int), (0 : Int))).2)] (.bool y_4) []) ∧ ((True) ∧ ((True) ∧ (((True) ∧ (!y_4) = false) ∧ ((True) ∧ ((True) ∧ ((True) ∧ ((PureC Try.prog 15 [(.int .i64 x), (.int .i64 (1 : Int)), (.int .i64 h_Count)] (.bool y_5) []) ∧ ((True) ∧ (((True) ∧ (!y_5) = false) ∧ ((True) ∧ ((True) ∧ (True))))))))))))))))))) := ⟨trivial, ⟨trivial, ⟨F153_ok n ((h_Ports.getD x.toNat ((0 : Int), (0 : Int))).1) y_3 hx7, ⟨trivial, ⟨⟨trivial, c9⟩, ⟨trivial, ⟨trivial, ⟨F154_ok n ((h_Ports.getD x.toNat ((0 : Int), (0 : Int))).2) y_4 hx10, ⟨trivial, ⟨trivial, ⟨⟨trivial, c12⟩, ⟨trivial, ⟨trivial, ⟨trivial, ⟨F15_ok n x (1 : Int) h_Count y_5 hx13, ⟨trivial, ⟨⟨trivial, c15⟩, ⟨trivial, ⟨trivial, trivial⟩⟩⟩⟩⟩⟩⟩⟩⟩⟩⟩⟩⟩⟩⟩⟩⟩⟩⟩
              refine TS.reg [.none, .none, (.call (.bool y_3) []), .none, .dec false, .none, .none, (.call (.bool y_4) []), .none, .none, .dec false, .none, .none, .none, (.call (.bool y_5) []), .none, .dec false] ?_ ?_
              · apply prop_of ?_ hq
                kernel_rfl
              refine XS.then ?_
              refine TS.no ?_ ?_
              · kernel_rfl
              refine TS.skip ?_
              refine XS.blockEnd ?_
              refine XS.then ?_
              have hq : (True) ∧ ((True) ∧ (True)) := ⟨trivial, ⟨trivial, trivial⟩⟩
              refine TS.reg [] ?_ ?_
              · apply prop_of ?_ hq
                kernel_rfl
              refine XS.reAny [0] (mkMask 41 [1, 10, 11]) (IntKind.wrap .i64 (x + (1 : Int))) h ?_
              kernel_rfl
      · refine TS.cond (decide (x < (16 : Int))) ?_ (fun hcz => by rw [c5] at hcz; cases hcz) (fun hcz => ?_)
        · kernel_rfl
        refine TS.exit ?_
        refine XS.passE ?_
        refine XS.passE ?_
        refine XS.out ?_
        refine XS.then ?_
        refine TS.seq ?_
        have hq : (True) ∧ (True) := ⟨trivial, trivial⟩
        refine TS.reg [] ?_ ?_
        · apply prop_of ?_ hq
          kernel_rfl
        refine XS.then ?_
        refine TS.ret ?_
        obtain rfl : (0 : Int) = r := Option.some.inj h
        exact XS.fin [] ((True) ∧ (True)) (by kernel_rfl) ⟨trivial, trivial⟩

/-! internal/stringslite.HasPrefix -/
def F158 (n : Nat) (s : List UInt8) (vprefix : List UInt8) : Option Bool := (bif (decide (((s.length : Nat) : Int) ≥ ((vprefix.length : Nat) : Int))) then (bif subB s.length none (some ((vprefix.length : Nat) : Int)) then (some ((s.take ((vprefix.length : Nat) : Int).toNat) == vprefix)) else none) else (some false))
theorem F158_ok (n : Nat) (s : List UInt8) (vprefix : List UInt8) (r : Bool) (h : F158 n s vprefix = some r) : PureC Try.prog 158 [(.str s), (.str vprefix)] (.bool r) [] := by
  refine PureC.mkS Try.func158 rfl rfl ?_
  intro w0 fz0 hfz
  replace h : (bif (decide (((s.length : Nat) : Int) ≥ ((vprefix.length : Nat) : Int))) then (bif subB s.length none (some ((vprefix.length : Nat) : Int)) then (some ((s.take ((vprefix.length : Nat) : Int).toNat) == vprefix)) else none) else (some false)) = some r := h
  refine TS.seq ?_
  have hq : (True) ∧ (True) := ⟨trivial, trivial⟩
  refine TS.reg [] ?_ ?_
  · apply prop_of ?_ hq
    kernel_rfl
  refine XS.then ?_
  refine TS.seq ?_
  rcases bif_some h with ⟨c1, h⟩ | ⟨c2, h⟩
  · obtain ⟨t3, h⟩ := test_some h
    have hq : (True) ∧ ((True) ∧ ((True) ∧ ((True) ∧ ((True) ∧ (((True) ∧ (decide (((s.length : Nat) : Int) ≥ ((vprefix.length : Nat) : Int))) = true) ∧ ((True) ∧ ((True) ∧ ((True) ∧ ((subC s.length none (some ((vprefix.length : Nat) : Int))) ∧ ((True) ∧ ((True) ∧ ((True) ∧ ((True) ∧ (True)))))))))))))) := ⟨trivial, ⟨trivial, ⟨trivial, ⟨trivial, ⟨trivial, ⟨⟨trivial, c1⟩, ⟨trivial, ⟨trivial, ⟨trivial, ⟨subB_ok t3, ⟨trivial, ⟨trivial, ⟨trivial, ⟨trivial, trivial⟩⟩⟩⟩⟩⟩⟩⟩⟩⟩⟩⟩⟩⟩
    refine TS.reg [.none, .none, .none, .none, .none, .dec true] ?_ ?_
    · apply prop_of ?_ hq
      kernel_rfl
    refine XS.then ?_
    refine TS.ret ?_
    obtain rfl : ((s.take ((vprefix.length : Nat) : Int).toNat) == vprefix) = r := Option.some.inj h
    exact XS.fin [] ((True) ∧ (True)) (by kernel_rfl) ⟨trivial, trivial⟩
  · have hq : (True) ∧ ((True) ∧ ((True) ∧ ((True) ∧ ((True) ∧ (((True) ∧ (decide (((s.length : Nat) : Int) ≥ ((vprefix.length : Nat) : Int))) = false) ∧ ((True) ∧ ((True) ∧ (True)))))))) := ⟨trivial, ⟨trivial, ⟨trivial, ⟨trivial, ⟨trivial, ⟨⟨trivial, c2⟩, ⟨trivial, ⟨trivial, trivial⟩⟩⟩⟩⟩⟩⟩⟩
    refine TS.reg [.none, .none, .none, .none, .none, .dec false] ?_ ?_
    · apply prop_of ?_ hq
      kernel_rfl
    refine XS.then ?_
    refine TS.ret ?_
    obtain rfl : false = r := Option.some.inj h
    exact XS.fin [] ((True) ∧ (True)) (by kernel_rfl) ⟨trivial, trivial⟩

/-! strings.HasPrefix -/
def F103 (n : Nat) (s : List UInt8) (vprefix : List UInt8) : Option Bool := ((F158 n s vprefix).bind fun y_2 => (some y_2))
theorem F103_ok (n : Nat) (s : List UInt8) (vprefix : List UInt8) (r : Bool) (h : F103 n s vprefix = some r) : PureC Try.prog 103 [(.str s), (.str vprefix)] (.bool r) [] := by
  refine PureC.mkS Try.func103 rfl rfl ?_
  intro w0 fz0 hfz
  replace h : ((F158 n s vprefix).bind fun y_2 => (some y_2)) = some r := h
  refine TS.seq ?_
  have hq : (True) ∧ (True) := ⟨trivial, trivial⟩
  refine TS.reg [] ?_ ?_
  · apply prop_of ?_ hq
    kernel_rfl
  refine XS.then ?_
  refine TS.seq ?_
  obtain ⟨y_2, hx1, h⟩ := bind_some' h
  have hq : (True) ∧ ((True) ∧ ((PureC Try.prog 158 [(.str s), (.str vprefix)] (.bool y_2) []) ∧ ((True) ∧ (True)))) := ⟨trivial, ⟨trivial, ⟨F158_ok n s vprefix y_2 hx1, ⟨trivial, trivial⟩⟩⟩⟩
  refine TS.reg [.none, .none, (.call (.bool y_2) [])] ?_ ?_
  · apply prop_of ?_ hq
    kernel_rfl
  refine XS.then ?_
  refine TS.ret ?_
  obtain rfl : y_2 = r := Option.some.inj h
  exact XS.fin [] ((True) ∧ (True)) (by kernel_rfl) ⟨trivial, trivial⟩

/-! plugtree/plugref.WordAt -/
def F126 (n : Nat) (s : List UInt8) (vat : Int) : Option Int := (bif inb (IntKind.wrap .i64 (vat + (1 : Int))) s.length then (bif inb vat s.length then (some (IntKind.wrap .i64 ((IntKind.wrap .i64 ((256 : Int) * (IntKind.wrap .i64 ((((s.getD ((IntKind.wrap .i64 (vat + (1 : Int))).toNat) 0).toNat : Nat) : Int))))) + (IntKind.wrap .i64 ((((s.getD vat.toNat 0).toNat : Nat) : Int)))))) else none) else none)
theorem F126_ok (n : Nat) (s : List UInt8) (vat : Int) (r : Int) (h : F126 n s vat = some r) : PureC Try.prog 126 [(.str s), (.int .i64 vat)] (.int .i64 r) [] := by
  refine PureC.mkS Try.func126 rfl rfl ?_
  intro w0 fz0 hfz
  replace h : (bif inb (IntKind.wrap .i64 (vat + (1 : Int))) s.length then (bif inb vat s.length then (some (IntKind.wrap .i64 ((IntKind.wrap .i64 ((256 : Int) * (IntKind.wrap .i64 ((((s.getD ((IntKind.wrap .i64 (vat + (1 : Int))).toNat) 0).toNat : Nat) : Int))))) + (IntKind.wrap .i64 ((((s.getD vat.toNat 0).toNat : Nat) : Int)))))) else none) else none) = some r := h
  refine TS.seq ?_
  have hq : (True) ∧ (True) := ⟨trivial, trivial⟩
  refine TS.reg [] ?_ ?_
  · apply prop_of ?_ hq
    kernel_rfl
  refine XS.then ?_
  refine TS.seq ?_
  obtain ⟨t1, h⟩ := test_some h
  obtain ⟨t2, h⟩ := test_some h
  have hq : ((True) ∧ ((True) ∧ ((True) ∧ ((inR (IntKind.wrap .i64 (vat + (1 : Int))) s.length) ∧ ((True) ∧ ((True) ∧ ((True) ∧ ((True) ∧ ((inR vat s.length) ∧ ((True) ∧ ((True) ∧ (True)))))))))))) ∧ ((True) ∧ (True)) := ⟨⟨trivial, ⟨trivial, ⟨trivial, ⟨inb_ok t1, ⟨trivial, ⟨trivial, ⟨trivial, ⟨trivial, ⟨inb_ok t2, ⟨trivial, ⟨trivial, trivial⟩⟩⟩⟩⟩⟩⟩⟩⟩⟩⟩, ⟨trivial, trivial⟩⟩
  refine TS.draw 11 [] [] (by kernel_rfl) ?_ ?_
  · apply prop_of ?_ hq
    kernel_rfl
  refine XS.then ?_
  refine TS.ret ?_
  obtain rfl : (IntKind.wrap .i64 ((IntKind.wrap .i64 ((256 : Int) * (IntKind.wrap .i64 ((((s.getD ((IntKind.wrap .i64 (vat + (1 : Int))).toNat) 0).toNat : Nat) : Int))))) + (IntKind.wrap .i64 ((((s.getD vat.toNat 0).toNat : Nat) : Int))))) = r := Option.some.inj h
  exact XS.fin [] ((True) ∧ (True)) (by kernel_rfl) ⟨trivial, trivial⟩

/-! plugtree/plugref.askValue -/
def F133_j4 (n : Nat) (kind : Int) (vn : Int) : Bool → Option Bool
  | x_2 => (bif x_2 then ((F15 n vn (0 : Int) (31 : Int)).bind fun y_5 => (some y_5)) else (bif (kind == (14 : Int)) then (some (vn == (512 : Int))) else (some (vn == (0 : Int)))))
def F133_j3 (n : Nat) (kind : Int) (vn : Int) : Bool → Option Bool
  | x => (bif x then ((F15 n vn (0 : Int) (65535 : Int)).bind fun y_3 => (some y_3)) else (bif (kind == (6 : Int)) then ((F15 n vn (0 : Int) (255 : Int)).bind fun y_4 => (some y_4)) else (bif (kind == (9 : Int)) then (F133_j4 n kind vn (kind == (9 : Int))) else (F133_j4 n kind vn (kind == (10 : Int))))))
def F133 (n : Nat) (kind : Int) (vn : Int) : Option Bool := (bif (kind == (4 : Int)) then ((F15 n vn (0 : Int) (127 : Int)).bind fun y_2 => (some y_2)) else (bif (kind == (5 : Int)) then (F133_j3 n kind vn (kind == (5 : Int))) else (F133_j3 n kind vn (kind == (13 : Int)))))
theorem F133_ok (n : Nat) (kind : Int) (vn : Int) (r : Bool) (h : F133 n kind vn = some r) : PureC Try.prog 133 [(.int .i64 kind), (.int .i64 vn)] (.bool r) [] := by
  refine PureC.mkS Try.func133 rfl rfl ?_
  intro w0 fz0 hfz
  replace h : (bif (kind == (4 : Int)) then ((F15 n vn (0 : Int) (127 : Int)).bind fun y_2 => (some y_2)) else (bif (kind == (5 : Int)) then (F133_j3 n kind vn (kind == (5 : Int))) else (F133_j3 n kind vn (kind == (13 : Int))))) = some r := h
  refine TS.seq ?_
  have hq : (True) ∧ (True) := ⟨trivial, trivial⟩
  refine TS.reg [] ?_ ?_
  · apply prop_of ?_ hq
    kernel_rfl
  refine XS.then ?_
  refine TS.seq ?_
  refine TS.seq ?_
  have hq : (True) ∧ (True) := ⟨trivial, trivial⟩
  refine TS.reg [] ?_ ?_
  · apply prop_of ?_ hq
    kernel_rfl
  refine XS.then ?_
  refine TS.block ?_
  refine TS.seq ?_
  have hq : (True) ∧ ((True) ∧ (True)) := ⟨trivial, ⟨trivial, trivial⟩⟩
  refine TS.reg [] ?_ ?_
  · apply prop_of ?_ hq
    kernel_rfl
  refine XS.then ?_
  rcases bif_some h with ⟨c1, h⟩ | ⟨c2, h⟩
  · refine TS.cond (kind == (4 : Int)) ?_ (fun hcz => ?_) (fun hcz => by rw [c1] at hcz; cases hcz)
    · kernel_rfl
    refine TS.seq ?_
    obtain ⟨y_2, hx3, h⟩ := bind_some' h
    have hq : (True) ∧ ((PureC Try.prog 15 [(.int .i64 vn), (.int .i64 (0 : Int)), (.int .i64 (127 : Int))] (.bool y_2) []) ∧ ((True) ∧ (True))) := ⟨trivial, ⟨F15_ok n vn (0 : Int) (127 : Int) y_2 hx3, ⟨trivial, trivial⟩⟩⟩
    refine TS.reg [.none, (.call (.bool y_2) [])] ?_ ?_
    · apply prop_of ?_ hq
      kernel_rfl
    refine XS.then ?_
    refine TS.ret ?_
    refine XS.blockRet ?_
    refine XS.passR ?_
    obtain rfl : y_2 = r := Option.some.inj h
    exact XS.fin [] ((True) ∧ (True)) (by kernel_rfl) ⟨trivial, trivial⟩
  · refine TS.cond (kind == (4 : Int)) ?_ (fun hcz => by rw [c2] at hcz; cases hcz) (fun hcz => ?_)
    · kernel_rfl
    refine TS.seq ?_
    refine TS.seq ?_
    have hq : (True) ∧ ((True) ∧ (True)) := ⟨trivial, ⟨trivial, trivial⟩⟩
    refine TS.reg [] ?_ ?_
    · apply prop_of ?_ hq
      kernel_rfl
    refine XS.then ?_
    refine TS.cut (D := Bool) (fun d => match d with | x => (mkTs 30 [(1, (.int .i64 vn)), (5, (.int .i64 kind)), (10, (.bool x))], [])) (fun d => F133_j3 n kind vn d = some r) ?_ ?_
    · rintro x h
      replace h : (bif x then ((F15 n vn (0 : Int) (65535 : Int)).bind fun y_3 => (some y_3)) else (bif (kind == (6 : Int)) then ((F15 n vn (0 : Int) (255 : Int)).bind fun y_4 => (some y_4)) else (bif (kind == (9 : Int)) then (F133_j4 n kind vn (kind == (9 : Int))) else (F133_j4 n kind vn (kind == (10 : Int)))))) = some r := h
      refine XS.then ?_
      rcases bif_some h with ⟨c4, h⟩ | ⟨c5, h⟩
      · refine TS.cond x ?_ (fun hcz => ?_) (fun hcz => by rw [c4] at hcz; cases hcz)
        · kernel_rfl
        refine TS.seq ?_
        obtain ⟨y_3, hx6, h⟩ := bind_some' h
        have hq : (True) ∧ ((PureC Try.prog 15 [(.int .i64 vn), (.int .i64 (0 : Int)), (.int .i64 (65535 : Int))] (.bool y_3) []) ∧ ((True) ∧ (True))) := ⟨trivial, ⟨F15_ok n vn (0 : Int) (65535 : Int) y_3 hx6, ⟨trivial, trivial⟩⟩⟩
        refine TS.reg [.none, (.call (.bool y_3) [])] ?_ ?_
        · apply prop_of ?_ hq
          kernel_rfl
        refine XS.then ?_
        refine TS.ret ?_
        refine XS.blockRet ?_
        refine XS.passR ?_
        obtain rfl : y_3 = r := Option.some.inj h
        exact XS.fin [] ((True) ∧ (True)) (by kernel_rfl) ⟨trivial, trivial⟩
      · refine TS.cond x ?_ (fun hcz => by rw [c5] at hcz; cases hcz) (fun hcz => ?_)
        · kernel_rfl
        refine TS.seq ?_
        have hq : (True) ∧ ((True) ∧ (True)) := ⟨trivial, ⟨trivial, trivial⟩⟩
        refine TS.reg [] ?_ ?_
        · apply prop_of ?_ hq
          kernel_rfl
        refine XS.then ?_
        rcases bif_some h with ⟨c7, h⟩ | ⟨c8, h⟩
        · refine TS.cond (kind == (6 : Int)) ?_ (fun hcz => ?_) (fun hcz => by rw [c7] at hcz; cases hcz)
          · kernel_rfl
          refine TS.seq ?_
          obtain ⟨y_4, hx9, h⟩ := bind_some' h
          have hq : (True) ∧ ((PureC Try.prog 15 [(.int .i64 vn), (.int .i64 (0 : Int)), (.int .i64 (255 : Int))] (.bool y_4) []) ∧ ((True) ∧ (True))) := ⟨trivial, ⟨F15_ok n vn (0 : Int) (255 : Int) y_4 hx9, ⟨trivial, trivial⟩⟩⟩
          refine TS.reg [.none, (.call (.bool y_4) [])] ?_ ?_
          · apply prop_of ?_ hq
            kernel_rfl
          refine XS.then ?_
          refine TS.ret ?_
          refine XS.blockRet ?_
          refine XS.passR ?_
          obtain rfl : y_4 = r := Option.some.inj h
          exact XS.fin [] ((True) ∧ (True)) (by kernel_rfl) ⟨trivial, trivial⟩
        · refine TS.cond (kind == (6 : Int)) ?_ (fun hcz => by rw [c8] at hcz; cases hcz) (fun hcz => ?_)
          · kernel_rfl
          refine TS.seq ?_
          refine TS.seq ?_
          have hq : (True) ∧ ((True) ∧ (True)) := ⟨trivial, ⟨trivial, trivial⟩⟩
          refine TS.reg [] ?_ ?_
          · apply prop_of ?_ hq
            kernel_rfl
          refine XS.then ?_
          refine TS.cut (D := Bool) (fun d => match d with | x_2 => (mkTs 30 [(1, (.int .i64 vn)), (5, (.int .i64 kind)), (19, (.bool x_2))], [])) (fun d => F133_j4 n kind vn d = some r) ?_ ?_
          · rintro x_2 h
            replace h : (bif x_2 then ((F15 n vn (0 : Int) (31 : Int)).bind fun y_5 => (some y_5)) else (bif (kind == (14 : Int)) then (some (vn == (512 : Int))) else (some (vn == (0 : Int))))) = some r := h
            refine XS.then ?_
            rcases bif_some h with ⟨c10, h⟩ | ⟨c11, h⟩
            · refine TS.cond x_2 ?_ (fun hcz => ?_) (fun hcz => by rw [c10] at hcz; cases hcz)
              · kernel_rfl
              refine TS.seq ?_
              obtain ⟨y_5, hx12, h⟩ := bind_some' h
              have hq : (True) ∧ ((PureC Try.prog 15 [(.int .i64 vn), (.int .i64 (0 : Int)), (.int .i64 (31 : Int))] (.bool y_5) []) ∧ ((True) ∧ (True))) := ⟨trivial, ⟨F15_ok n vn (0 : Int) (31 : Int) y_5 hx12, ⟨trivial, trivial⟩⟩⟩
              refine TS.reg [.none, (.call (.bool y_5) [])] ?_ ?_
              · apply prop_of ?_ hq
                kernel_rfl
              refine XS.then ?_
              refine TS.ret ?_
              refine XS.blockRet ?_
              refine XS.passR ?_
              obtain rfl : y_5 = r := Option.some.inj h
              exact XS.fin [] ((True) ∧ (True)) (by kernel_rfl) ⟨trivial, trivial⟩
            · refine TS.cond x_2 ?_ (fun hcz => by rw [c11] at hcz; cases hcz) (fun hcz => ?_)
              · kernel_rfl
              refine TS.seq ?_
              have hq : (True) ∧ ((True) ∧ (True)) := ⟨trivial, ⟨trivial, trivial⟩⟩
              refine TS.reg [] ?_ ?_
              · apply prop_of ?_ hq
                kernel_rfl
              refine XS.then ?_
              rcases bif_some h with ⟨c13, h⟩ | ⟨c14, h⟩
              · refine TS.cond (kind == (14 : Int)) ?_ (fun hcz => ?_) (fun hcz => by rw [c13] at hcz; cases hcz)
                · kernel_rfl
                refine TS.seq ?_
                have hq : (True) ∧ ((True) ∧ ((True) ∧ (True))) := ⟨trivial, ⟨trivial, ⟨trivial, trivial⟩⟩⟩
                refine TS.reg [] ?_ ?_
                · apply prop_of ?_ hq
                  kernel_rfl
                refine XS.then ?_
                refine TS.ret ?_
                refine XS.blockRet ?_
                refine XS.passR ?_
                obtain rfl : (vn == (512 : Int)) = r := Option.some.inj h
                exact XS.fin [] ((True) ∧ (True)) (by kernel_rfl) ⟨trivial, trivial⟩
              · refine TS.cond (kind == (14 : Int)) ?_ (fun hcz => by rw [c14] at hcz; cases hcz) (fun hcz => ?_)
                · kernel_rfl
                refine TS.skip ?_
                refine XS.blockEnd ?_
                refine XS.then ?_
                refine TS.seq ?_
                have hq : (True) ∧ ((True) ∧ ((True) ∧ (True))) := ⟨trivial, ⟨trivial, ⟨trivial, trivial⟩⟩⟩
                refine TS.reg [] ?_ ?_
                · apply prop_of ?_ hq
                  kernel_rfl
                refine XS.then ?_
                refine TS.ret ?_
                obtain rfl : (vn == (0 : Int)) = r := Option.some.inj h
                exact XS.fin [] ((True) ∧ (True)) (by kernel_rfl) ⟨trivial, trivial⟩
          · rcases bif_some h with ⟨c15, h⟩ | ⟨c16, h⟩
            · refine TS.cond (kind == (9 : Int)) ?_ (fun hcz => ?_) (fun hcz => by rw [c15] at hcz; cases hcz)
              · kernel_rfl
              refine TS.skip ?_
              refine XS.reAny [] (mkMask 30 [1, 5, 19]) (kind == (9 : Int)) h ?_
              kernel_rfl
            · refine TS.cond (kind == (9 : Int)) ?_ (fun hcz => by rw [c16] at hcz; cases hcz) (fun hcz => ?_)
              · kernel_rfl
              have hq : (True) ∧ ((True) ∧ (True)) := ⟨trivial, ⟨trivial, trivial⟩⟩
              refine TS.reg [] ?_ ?_
              · apply prop_of ?_ hq
                kernel_rfl
              refine XS.reAny [] (mkMask 30 [1, 5, 19]) (kind == (10 : Int)) h ?_
              kernel_rfl
    · rcases bif_some h with ⟨c17, h⟩ | ⟨c18, h⟩
      · refine TS.cond (kind == (5 : Int)) ?_ (fun hcz => ?_) (fun hcz => by rw [c17] at hcz; cases hcz)
        · kernel_rfl
        refine TS.skip ?_
        refine XS.reAny [] (mkMask 30 [1, 5, 10]) (kind == (5 : Int)) h ?_
        kernel_rfl
      · refine TS.cond (kind == (5 : Int)) ?_ (fun hcz => by rw [c18] at hcz; cases hcz) (fun hcz => ?_)
        · kernel_rfl
        have hq : (True) ∧ ((True) ∧ (True)) := ⟨trivial, ⟨trivial, trivial⟩⟩
        refine TS.reg [] ?_ ?_
        · apply prop_of ?_ hq
          kernel_rfl
        refine XS.reAny [] (mkMask 30 [1, 5, 10]) (kind == (13 : Int)) h ?_
        kernel_rfl

/-! plugtree/plugref.askIndex -/
def F134 (n : Nat) (kind : Int) (vn : Int) : Option Bool := (bif (kind == (2 : Int)) then ((F15 n vn (0 : Int) (15 : Int)).bind fun y_2 => (bif y_2 then (some true) else ((F15 n vn (128 : Int) (143 : Int)).bind fun y_3 => (some y_3)))) else (bif (kind == (3 : Int)) then ((F15 n vn (0 : Int) (15 : Int)).bind fun y_4 => (bif y_4 then (some true) else ((F15 n vn (128 : Int) (143 : Int)).bind fun y_5 => (some y_5)))) else (bif (kind == (5 : Int)) then ((F15 n vn (0 : Int) (65535 : Int)).bind fun y_6 => (some y_6)) else ((F15 n kind (8 : Int) (10 : Int)).bind fun y_7 => (bif y_7 then ((F15 n vn (1 : Int) (15 : Int)).bind fun y_8 => (some y_8)) else ((F15 n kind (11 : Int) (14 : Int)).bind fun y_9 => (bif y_9 then ((F15 n vn (0 : Int) (255 : Int)).bind fun y_10 => (some y_10)) else (some (vn == (0 : Int))))))))))
theorem F134_ok (n : Nat) (kind : Int) (vn : Int) (r : Bool) (h : F134 n kind vn = some r) : PureC Try.prog 134 [(.int .i64 kind), (.int .i64 vn)] (.bool r) [] := by
  refine PureC.mkS Try.func134 rfl rfl ?_
  intro w0 fz0 hfz
  replace h : (bif (kind == (2 : Int)) then ((F15 n vn (0 : Int) (15 : Int)).bind fun y_2 => (bif y_2 then (some true) else ((F15 n vn (128 : Int) (143 : Int)).bind fun y_3 => (some y_3)))) else (bif (kind == (3 : Int)) then ((F15 n vn (0 : Int) (15 : Int)).bind fun y_4 => (bif y_4 then (some true) else ((F15 n vn (128 : Int) (143 : Int)).bind fun y_5 => (some y_5)))) else (bif (kind == (5 : Int)) then ((F15 n vn (0 : Int) (65535 : Int)).bind fun y_6 => (some y_6)) else ((F15 n kind (8 : Int) (10 : Int)).bind fun y_7 => (bif y_7 then ((F15 n vn (1 : Int) (15 : Int)).bind fun y_8 => (some y_8)) else ((F15 n kind (11 : Int) (14 : Int)).bind fun y_9 => (bif y_9 then ((F15 n vn (0 : Int) (255 : Int)).bind fun y_10 => (some y_10)) else (some (vn == (0 : Int)))))))))) = some r := h
  refine TS.seq ?_
  have hq : (True) ∧ (True) := ⟨trivial, trivial⟩
  refine TS.reg [] ?_ ?_
  · apply prop_of ?_ hq
    kernel_rfl
  refine XS.then ?_
  refine TS.seq ?_
  refine TS.block ?_
  refine TS.seq ?_
  rcases bif_some h with ⟨c1, h⟩ | ⟨c2, h⟩
  · have hq : (True) ∧ ((True) ∧ (((True) ∧ (kind == (2 : Int)) = true) ∧ ((True) ∧ ((True) ∧ (True))))) := ⟨trivial, ⟨trivial, ⟨⟨trivial, c1⟩, ⟨trivial, ⟨trivial, trivial⟩⟩⟩⟩⟩
    refine TS.reg [.none, .none, .dec true] ?_ ?_
    · apply prop_of ?_ hq
      kernel_rfl
    refine XS.then ?_
    refine TS.yes ?_ ?_
    · kernel_rfl
    refine TS.seq ?_
    obtain ⟨y_2, hx3, h⟩ := bind_some' h
    rcases bif_some h with ⟨c4, h⟩ | ⟨c5, h⟩
    · have hq : (True) ∧ ((PureC Try.prog 15 [(.int .i64 vn), (.int .i64 (0 : Int)), (.int .i64 (15 : Int))] (.bool y_2) []) ∧ (((True) ∧ y_2 = true) ∧ ((True) ∧ ((True) ∧ (True))))) := ⟨trivial, ⟨F15_ok n vn (0 : Int) (15 : Int) y_2 hx3, ⟨⟨trivial, c4⟩, ⟨trivial, ⟨trivial, trivial⟩⟩⟩⟩⟩
      refine TS.reg [.none, (.call (.bool y_2) []), .dec true] ?_ ?_
      · apply prop_of ?_ hq
        kernel_rfl
      refine XS.then ?_
      refine TS.ret ?_
      refine XS.blockRet ?_
      refine XS.passR ?_
      obtain rfl : true = r := Option.some.inj h
      exact XS.fin [] ((True) ∧ (True)) (by kernel_rfl) ⟨trivial, trivial⟩
    · obtain ⟨y_3, hx6, h⟩ := bind_some' h
      have hq : (True) ∧ ((PureC Try.prog 15 [(.int .i64 vn), (.int .i64 (0 : Int)), (.int .i64 (15 : Int))] (.bool y_2) []) ∧ (((True) ∧ y_2 = false) ∧ ((True) ∧ ((PureC Try.prog 15 [(.int .i64 vn), (.int .i64 (128 : Int)), (.int .i64 (143 : Int))] (.bool y_3) []) ∧ ((True) ∧ ((True) ∧ (True))))))) := ⟨trivial, ⟨F15_ok n vn (0 : Int) (15 : Int) y_2 hx3, ⟨⟨trivial, c5⟩, ⟨trivial, ⟨F15_ok n vn (128 : Int) (143 : Int) y_3 hx6, ⟨trivial, ⟨trivial, trivial⟩⟩⟩⟩⟩⟩⟩
      refine TS.reg [.none, (.call (.bool y_2) []), .dec false, .none, (.call (.bool y_3) [])] ?_ ?_
      · apply prop_of ?_ hq
        kernel_rfl
      refine XS.then ?_
      refine TS.ret ?_
      refine XS.blockRet ?_
      refine XS.passR ?_
      obtain rfl : y_3 = r := Option.some.inj h
      exact XS.fin [] ((True) ∧ (True)) (by kernel_rfl) ⟨trivial, trivial⟩
  · have hq : (True) ∧ ((True) ∧ (((True) ∧ (kind == (2 : Int)) = false) ∧ ((True) ∧ ((True) ∧ ((True) ∧ ((True) ∧ (True))))))) := ⟨trivial, ⟨trivial, ⟨⟨trivial, c2⟩, ⟨trivial, ⟨trivial, ⟨trivial, ⟨trivial, trivial⟩⟩⟩⟩⟩⟩⟩
    refine TS.reg [.none, .none, .dec false] ?_ ?_
    · apply prop_of ?_ hq
      kernel_rfl
    refine XS.then ?_
    rcases bif_some h with ⟨c7, h⟩ | ⟨c8, h⟩
    · refine TS.cond (kind == (3 : Int)) ?_ (fun hcz => ?_) (fun hcz => by rw [c7] at hcz; cases hcz)
      · kernel_rfl
      refine TS.seq ?_
      obtain ⟨y_4, hx9, h⟩ := bind_some' h
      rcases bif_some h with ⟨c10, h⟩ | ⟨c11, h⟩
      · have hq : (True) ∧ ((PureC Try.prog 15 [(.int .i64 vn), (.int .i64 (0 : Int)), (.int .i64 (15 : Int))] (.bool y_4) []) ∧ (((True) ∧ y_4 = true) ∧ ((True) ∧ ((True) ∧ (True))))) := ⟨trivial, ⟨F15_ok n vn (0 : Int) (15 : Int) y_4 hx9, ⟨⟨trivial, c10⟩, ⟨trivial, ⟨trivial, trivial⟩⟩⟩⟩⟩
        refine TS.reg [.none, (.call (.bool y_4) []), .dec true] ?_ ?_
        · apply prop_of ?_ hq
          kernel_rfl
        refine XS.then ?_
        refine TS.ret ?_
        refine XS.blockRet ?_
        refine XS.passR ?_
        obtain rfl : true = r := Option.some.inj h
        exact XS.fin [] ((True) ∧ (True)) (by kernel_rfl) ⟨trivial, trivial⟩
      · obtain ⟨y_5, hx12, h⟩ := bind_some' h
        have hq : (True) ∧ ((PureC Try.prog 15 [(.int .i64 vn), (.int .i64 (0 : Int)), (.int .i64 (15 : Int))] (.bool y_4) []) ∧ (((True) ∧ y_4 = false) ∧ ((True) ∧ ((PureC Try.prog 15 [(.int .i64 vn), (.int .i64 (128 : Int)), (.int .i64 (143 : Int))] (.bool y_5) []) ∧ ((True) ∧ ((True) ∧ (True))))))) := ⟨trivial, ⟨F15_ok n vn (0 : Int) (15 : Int) y_4 hx9, ⟨⟨trivial, c11⟩, ⟨trivial, ⟨F15_ok n vn (128 : Int) (143 : Int) y_5 hx12, ⟨trivial, ⟨trivial, trivial⟩⟩⟩⟩⟩⟩⟩
        refine TS.reg [.none, (.call (.bool y_4) []), .dec false, .none, (.call (.bool y_5) [])] ?_ ?_
        · apply prop_of ?_ hq
          kernel_rfl
        refine XS.then ?_
        refine TS.ret ?_
        refine XS.blockRet ?_
        refine XS.passR ?_
        obtain rfl : y_5 = r := Option.some.inj h
        exact XS.fin [] ((True) ∧ (True)) (by kernel_rfl) ⟨trivial, trivial⟩
    · refine TS.cond (kind == (3 : Int)) ?_ (fun hcz => by rw [c8] at hcz; cases hcz) (fun hcz => ?_)
      · kernel_rfl
      refine TS.seq ?_
      have hq : (True) ∧ ((True) ∧ ((True) ∧ (True))) := ⟨trivial, ⟨trivial, ⟨trivial, trivial⟩⟩⟩
      refine TS.reg [] ?_ ?_
      · apply prop_of ?_ hq
        kernel_rfl
      refine XS.then ?_
      rcases bif_some h with ⟨c13, h⟩ | ⟨c14, h⟩
      · refine TS.cond (kind == (5 : Int)) ?_ (fun hcz => ?_) (fun hcz => by rw [c13] at hcz; cases hcz)
        · kernel_rfl
        refine TS.seq ?_
        obtain ⟨y_6, hx15, h⟩ := bind_some' h
        have hq : (True) ∧ ((PureC Try.prog 15 [(.int .i64 vn), (.int .i64 (0 : Int)), (.int .i64 (65535 : Int))] (.bool y_6) []) ∧ ((True) ∧ (True))) := ⟨trivial, ⟨F15_ok n vn (0 : Int) (65535 : Int) y_6 hx15, ⟨trivial, trivial⟩⟩⟩
        refine TS.reg [.none, (.call (.bool y_6) [])] ?_ ?_
        · apply prop_of ?_ hq
          kernel_rfl
        refine XS.then ?_
        refine TS.ret ?_
        refine XS.blockRet ?_
        refine XS.passR ?_
        obtain rfl : y_6 = r := Option.some.inj h
        exact XS.fin [] ((True) ∧ (True)) (by kernel_rfl) ⟨trivial, trivial⟩
      · refine TS.cond (kind == (5 : Int)) ?_ (fun hcz => by rw [c14] at hcz; cases hcz) (fun hcz => ?_)
        · kernel_rfl
        refine TS.seq ?_
        obtain ⟨y_7, hx16, h⟩ := bind_some' h
        have hq : (True) ∧ ((PureC Try.prog 15 [(.int .i64 kind), (.int .i64 (8 : Int)), (.int .i64 (10 : Int))] (.bool y_7) []) ∧ ((True) ∧ (True))) := ⟨trivial, ⟨F15_ok n kind (8 : Int) (10 : Int) y_7 hx16, ⟨trivial, trivial⟩⟩⟩
        refine TS.reg [.none, (.call (.bool y_7) [])] ?_ ?_
        · apply prop_of ?_ hq
          kernel_rfl
        refine XS.then ?_
        rcases bif_some h with ⟨c17, h⟩ | ⟨c18, h⟩
        · refine TS.cond y_7 ?_ (fun hcz => ?_) (fun hcz => by rw [c17] at hcz; cases hcz)
          · kernel_rfl
          refine TS.seq ?_
          obtain ⟨y_8, hx19, h⟩ := bind_some' h
          have hq : (True) ∧ ((PureC Try.prog 15 [(.int .i64 vn), (.int .i64 (1 : Int)), (.int .i64 (15 : Int))] (.bool y_8) []) ∧ ((True) ∧ (True))) := ⟨trivial, ⟨F15_ok n vn (1 : Int) (15 : Int) y_8 hx19, ⟨trivial, trivial⟩⟩⟩
          refine TS.reg [.none, (.call (.bool y_8) [])] ?_ ?_
          · apply prop_of ?_ hq
            kernel_rfl
          refine XS.then ?_
          refine TS.ret ?_
          refine XS.blockRet ?_
          refine XS.passR ?_
          obtain rfl : y_8 = r := Option.some.inj h
          exact XS.fin [] ((True) ∧ (True)) (by kernel_rfl) ⟨trivial, trivial⟩
        · refine TS.cond y_7 ?_ (fun hcz => by rw [c18] at hcz; cases hcz) (fun hcz => ?_)
          · kernel_rfl
          refine TS.seq ?_
          obtain ⟨y_9, hx20, h⟩ := bind_some' h
          have hq : (True) ∧ ((PureC Try.prog 15 [(.int .i64 kind), (.int .i64 (11 : Int)), (.int .i64 (14 : Int))] (.bool y_9) []) ∧ ((True) ∧ (True))) := ⟨trivial, ⟨F15_ok n kind (11 : Int) (14 : Int) y_9 hx20, ⟨trivial, trivial⟩⟩⟩
          refine TS.reg [.none, (.call (.bool y_9) [])] ?_ ?_
          · apply prop_of ?_ hq
            kernel_rfl
          refine XS.then ?_
          rcases bif_some h with ⟨c21, h⟩ | ⟨c22, h⟩
          · refine TS.cond y_9 ?_ (fun hcz => ?_) (fun hcz => by rw [c21] at hcz; cases hcz)
            · kernel_rfl
            refine TS.seq ?_
            obtain ⟨y_10, hx23, h⟩ := bind_some' h
            have hq : (True) ∧ ((PureC Try.prog 15 [(.int .i64 vn), (.int .i64 (0 : Int)), (.int .i64 (255 : Int))] (.bool y_10) []) ∧ ((True) ∧ (True))) := ⟨trivial, ⟨F15_ok n vn (0 : Int) (255 : Int) y_10 hx23, ⟨trivial, trivial⟩⟩⟩
            refine TS.reg [.none, (.call (.bool y_10) [])] ?_ ?_
            · apply prop_of ?_ hq
              kernel_rfl
            refine XS.then ?_
            refine TS.ret ?_
            refine XS.blockRet ?_
            refine XS.passR ?_
            obtain rfl : y_10 = r := Option.some.inj h
            exact XS.fin [] ((True) ∧ (True)) (by kernel_rfl) ⟨trivial, trivial⟩
          · refine TS.cond y_9 ?_ (fun hcz => by rw [c22] at hcz; cases hcz) (fun hcz => ?_)
            · kernel_rfl
            refine TS.skip ?_
            refine XS.blockEnd ?_
            refine XS.then ?_
            refine TS.seq ?_
            have hq : (True) ∧ ((True) ∧ ((True) ∧ (True))) := ⟨trivial, ⟨trivial, ⟨trivial, trivial⟩⟩⟩
            refine TS.reg [] ?_ ?_
            · apply prop_of ?_ hq
              kernel_rfl
            refine XS.then ?_
            refine TS.ret ?_
            obtain rfl : (vn == (0 : Int)) = r := Option.some.inj h
            exact XS.fin [] ((True) ∧ (True)) (by kernel_rfl) ⟨trivial, trivial⟩

/-! plugtree/plugref.askLength -/
def F135 (n : Nat) (kind : Int) (vn : Int) : Option Bool := (bif (kind == (5 : Int)) then ((F15 n vn (0 : Int) (65535 : Int)).bind fun y_2 => (some y_2)) else ((F15 n kind (1 : Int) (14 : Int)).bind fun y_3 => (bif y_3 then (bif inb (IntKind.wrap .i64 (kind - (1 : Int))) (([2, 0, 0, 0, 0, 0, 1, 4, 0, 0, 0, 1, 0, 1] : List UInt8).length) then (some (vn == (IntKind.wrap .i64 ((((([2, 0, 0, 0, 0, 0, 1, 4, 0, 0, 0, 1, 0, 1] : List UInt8).getD ((IntKind.wrap .i64 (kind - (1 : Int))).toNat) 0).toNat : Nat) : Int))))) else none) else (some false))))
theorem F135_ok (n : Nat) (kind : Int) (vn : Int) (r : Bool) (h : F135 n kind vn = some r) : PureC Try.prog 135 [(.int .i64 kind), (.int .i64 vn)] (.bool r) [] := by
  refine PureC.mkS Try.func135 rfl rfl ?_
  intro w0 fz0 hfz
  replace h : (bif (kind == (5 : Int)) then ((F15 n vn (0 : Int) (65535 : Int)).bind fun y_2 => (some y_2)) else ((F15 n kind (1 : Int) (14 : Int)).bind fun y_3 => (bif y_3 then (bif inb (IntKind.wrap .i64 (kind - (1 : Int))) (([2, 0, 0, 0, 0, 0, 1, 4, 0, 0, 0, 1, 0, 1] : List UInt8).length) then (some (vn == (IntKind.wrap .i64 ((((([2, 0, 0, 0, 0, 0, 1, 4, 0, 0, 0, 1, 0, 1] : List UInt8).getD ((IntKind.wrap .i64 (kind - (1 : Int))).toNat) 0).toNat : Nat) : Int))))) else none) else (some false)))) = some r := h
  refine TS.seq ?_
  have hq : (True) ∧ (True) := ⟨trivial, trivial⟩
  refine TS.reg [] ?_ ?_
  · apply prop_of ?_ hq
    kernel_rfl
  refine XS.then ?_
  refine TS.seq ?_
  refine TS.seq ?_
  have hq : (True) ∧ ((True) ∧ (True)) := ⟨trivial, ⟨trivial, trivial⟩⟩
  refine TS.reg [] ?_ ?_
  · apply prop_of ?_ hq
    kernel_rfl
  refine XS.then ?_
  rcases bif_some h with ⟨c1, h⟩ | ⟨c2, h⟩
  · refine TS.cond (kind == (5 : Int)) ?_ (fun hcz => ?_) (fun hcz => by rw [c1] at hcz; cases hcz)
    · kernel_rfl
    refine TS.seq ?_
    obtain ⟨y_2, hx3, h⟩ := bind_some' h
    have hq : (True) ∧ ((PureC Try.prog 15 [(.int .i64 vn), (.int .i64 (0 : Int)), (.int .i64 (65535 : Int))] (.bool y_2) []) ∧ ((True) ∧ (True))) := ⟨trivial, ⟨F15_ok n vn (0 : Int) (65535 : Int) y_2 hx3, ⟨trivial, trivial⟩⟩⟩
    refine TS.reg [.none, (.call (.bool y_2) [])] ?_ ?_
    · apply prop_of ?_ hq
      kernel_rfl
    refine XS.then ?_
    refine TS.ret ?_
    refine XS.passR ?_
    obtain rfl : y_2 = r := Option.some.inj h
    exact XS.fin [] ((True) ∧ (True)) (by kernel_rfl) ⟨trivial, trivial⟩
  · refine TS.cond (kind == (5 : Int)) ?_ (fun hcz => by rw [c2] at hcz; cases hcz) (fun hcz => ?_)
    · kernel_rfl
    refine TS.skip ?_
    refine XS.then ?_
    refine TS.seq ?_
    obtain ⟨y_3, hx4, h⟩ := bind_some' h
    rcases bif_some h with ⟨c5, h⟩ | ⟨c6, h⟩
    · obtain ⟨t7, h⟩ := test_some h
      have hq : (True) ∧ ((PureC Try.prog 15 [(.int .i64 kind), (.int .i64 (1 : Int)), (.int .i64 (14 : Int))] (.bool y_3) []) ∧ (((True) ∧ y_3 = true) ∧ ((True) ∧ ((True) ∧ ((True) ∧ ((inR (IntKind.wrap .i64 (kind - (1 : Int))) (([2, 0, 0, 0, 0, 0, 1, 4, 0, 0, 0, 1, 0, 1] : List UInt8).length)) ∧ ((True) ∧ ((True) ∧ ((True) ∧ ((True) ∧ (True))))))))))) := ⟨trivial, ⟨F15_ok n kind (1 : Int) (14 : Int) y_3 hx4, ⟨⟨trivial, c5⟩, ⟨trivial, ⟨trivial, ⟨trivial, ⟨inb_ok t7, ⟨trivial, ⟨trivial, ⟨trivial, ⟨trivial, trivial⟩⟩⟩⟩⟩⟩⟩⟩⟩⟩⟩
      refine TS.reg [.none, (.call (.bool y_3) []), .dec true] ?_ ?_
      · apply prop_of ?_ hq
        kernel_rfl
      refine XS.then ?_
      refine TS.ret ?_
      obtain rfl : (vn == (IntKind.wrap .i64 ((((([2, 0, 0, 0, 0, 0, 1, 4, 0, 0, 0, 1, 0, 1] : List UInt8).getD ((IntKind.wrap .i64 (kind - (1 : Int))).toNat) 0).toNat : Nat) : Int)))) = r := Option.some.inj h
      exact XS.fin [] ((True) ∧ (True)) (by kernel_rfl) ⟨trivial, trivial⟩
    · have hq : (True) ∧ ((PureC Try.prog 15 [(.int .i64 kind), (.int .i64 (1 : Int)), (.int .i64 (14 : Int))] (.bool y_3) []) ∧ (((True) ∧ y_3 = false) ∧ ((True) ∧ ((True) ∧ (True))))) := ⟨trivial, ⟨F15_ok n kind (1 : Int) (14 : Int) y_3 hx4, ⟨⟨trivial, c6⟩, ⟨trivial, ⟨trivial, trivial⟩⟩⟩⟩⟩
      refine TS.reg [.none, (.call (.bool y_3) []), .dec false] ?_ ?_
      · apply prop_of ?_ hq
        kernel_rfl
      refine XS.then ?_
      refine TS.ret ?_
      obtain rfl : false = r := Option.some.inj h
      exact XS.fin [] ((True) ∧ (True)) (by kernel_rfl) ⟨trivial, trivial⟩

/-! plugtree/plugref.TwoBytes -/
def F65 (n : Nat) (vn : Int) : Option (List UInt8) := (some (strOf [(IntKind.wrap .u8 ((vn.tmod (256 : Int)))), (IntKind.wrap .u8 (((IntKind.wrap .i64 (vn.tdiv (256 : Int))).tmod (256 : Int))))]))
theorem F65_ok (n : Nat) (vn : Int) (r : List UInt8) (h : F65 n vn = some r) : PureC Try.prog 65 [(.int .i64 vn)] (.str r) [] := by
  refine PureC.mkS Try.func65 rfl rfl ?_
  intro w0 fz0 hfz
  replace h : (some (strOf [(IntKind.wrap .u8 ((vn.tmod (256 : Int)))), (IntKind.wrap .u8 (((IntKind.wrap .i64 (vn.tdiv (256 : Int))).tmod (256 : Int))))])) = some r := h
  refine TS.seq ?_
  have hq : (True) ∧ (True) := ⟨trivial, trivial⟩
  refine TS.reg [] ?_ ?_
  · apply prop_of ?_ hq
    kernel_rfl
  refine XS.then ?_
  refine TS.seq ?_
  have hq : (True) ∧ (((256 : Int) ≠ 0) ∧ ((True) ∧ ((True) ∧ (((256 : Int) ≠ 0) ∧ (((256 : Int) ≠ 0) ∧ ((True) ∧ (((0 < 2 ∧ True) ∧ ((1 < 2 ∧ True) ∧ (True))) ∧ ((True) ∧ ((True) ∧ (True)))))))))) := ⟨trivial, ⟨by decide, ⟨trivial, ⟨trivial, ⟨by decide, ⟨by decide, ⟨trivial, ⟨⟨⟨by decide, trivial⟩, ⟨⟨by decide, trivial⟩, trivial⟩⟩, ⟨trivial, ⟨trivial, trivial⟩⟩⟩⟩⟩⟩⟩⟩⟩⟩
  refine TS.reg [] ?_ ?_
  · apply prop_of ?_ hq
    kernel_rfl
  refine XS.then ?_
  refine TS.ret ?_
  obtain rfl : (strOf [(IntKind.wrap .u8 ((vn.tmod (256 : Int)))), (IntKind.wrap .u8 (((IntKind.wrap .i64 (vn.tdiv (256 : Int))).tmod (256 : Int))))]) = r := Option.some.inj h
  exact XS.fin [] ((True) ∧ (True)) (by kernel_rfl) ⟨trivial, trivial⟩

/-! plugtree/plugref.AskText -/
def F57_j2 (n : Nat) (a_Kind : Int) (a_Value : Int) (a_Index : Int) (a_Length : Int) : Bool → Option ((List UInt8) × Int)
  | x => (bif x then (some (([] : List UInt8), (1 : Int))) else (bif subB (([128, 0, 2, 1, 2, 3, 0, 5, 128, 6, 0, 9, 128, 8, 163, 0, 35, 3, 35, 1, 33, 255, 161, 254, 33, 10, 33, 9] : List UInt8).length) (some (IntKind.wrap .i64 ((IntKind.wrap .i64 ((2 : Int) * a_Kind)) - (2 : Int)))) (some (IntKind.wrap .i64 ((2 : Int) * a_Kind))) then ((F65 n a_Value).bind fun y_3 => (bif (decide (((([128, 0, 2, 1, 2, 3, 0, 5, 128, 6, 0, 9, 128, 8, 163, 0, 35, 3, 35, 1, 33, 255, 161, 254, 33, 10, 33, 9] : List UInt8).take (IntKind.wrap .i64 ((2 : Int) * a_Kind)).toNat).drop (IntKind.wrap .i64 ((IntKind.wrap .i64 ((2 : Int) * a_Kind)) - (2 : Int))).toNat).length + y_3.length ≤ 9223372036854775807)) then ((F65 n a_Index).bind fun y_4 => (bif (decide ((((([128, 0, 2, 1, 2, 3, 0, 5, 128, 6, 0, 9, 128, 8, 163, 0, 35, 3, 35, 1, 33, 255, 161, 254, 33, 10, 33, 9] : List UInt8).take (IntKind.wrap .i64 ((2 : Int) * a_Kind)).toNat).drop (IntKind.wrap .i64 ((IntKind.wrap .i64 ((2 : Int) * a_Kind)) - (2 : Int))).toNat) ++ y_3).length + y_4.length ≤ 9223372036854775807)) then ((F65 n a_Length).bind fun y_5 => (bif (decide (((((([128, 0, 2, 1, 2, 3, 0, 5, 128, 6, 0, 9, 128, 8, 163, 0, 35, 3, 35, 1, 33, 255, 161, 254, 33, 10, 33, 9] : List UInt8).take (IntKind.wrap .i64 ((2 : Int) * a_Kind)).toNat).drop (IntKind.wrap .i64 ((IntKind.wrap .i64 ((2 : Int) * a_Kind)) - (2 : Int))).toNat) ++ y_3) ++ y_4).length + y_5.length ≤ 9223372036854775807)) then (some ((((((([128, 0, 2, 1, 2, 3, 0, 5, 128, 6, 0, 9, 128, 8, 163, 0, 35, 3, 35, 1, 33, 255, 161, 254, 33, 10, 33, 9] : List UInt8).take (IntKind.wrap .i64 ((2 : Int) * a_Kind)).toNat).drop (IntKind.wrap .i64 ((IntKind.wrap .i64 ((2 : Int) * a_Kind)) - (2 : Int))).toNat) ++ y_3) ++ y_4) ++ y_5), (0 : Int))) else none)) else none)) else none)) else none))
def F57 (n : Nat) (a_Kind : Int) (a_Value : Int) (a_Index : Int) (a_Length : Int) : Option ((List UInt8) × Int) := ((F15 n a_Kind (1 : Int) (14 : Int)).bind fun y_6 => (bif (!y_6) then (F57_j2 n a_Kind a_Value a_Index a_Length true) else ((F133 n a_Kind a_Value).bind fun y_7 => (bif (!y_7) then (F57_j2 n a_Kind a_Value a_Index a_Length true) else ((F134 n a_Kind a_Index).bind fun y_8 => (bif (!y_8) then (F57_j2 n a_Kind a_Value a_Index a_Length true) else ((F135 n a_Kind a_Length).bind fun y_9 => (F57_j2 n a_Kind a_Value a_Index a_Length (!y_9)))))))))
theorem F57_ok (n : Nat) (a_Kind : Int) (a_Value : Int) (a_Index : Int) (a_Length : Int) (r : (List UInt8) × Int) (h : F57 n a_Kind a_Value a_Index a_Length = some r) : PureC Try.prog 57 [(.st (.cons (.int .i64 a_Kind) (.cons (.int .i64 a_Value) (.cons (.int .i64 a_Index) (.int .i64 a_Length)))))] (.tup (.cons (.str r.1) (.cons (.int .i64 r.2) .nil))) [] := by
  refine PureC.mkS Try.func57 rfl rfl ?_
  intro w0 fz0 hfz
  replace h : ((F15 n a_Kind (1 : Int) (14 : Int)).bind fun y_6 => (bif (!y_6) then (F57_j2 n a_Kind a_Value a_Index a_Length true) else ((F133 n a_Kind a_Value).bind fun y_7 => (bif (!y_7) then (F57_j2 n a_Kind a_Value a_Index a_Length true) else ((F134 n a_Kind a_Index).bind fun y_8 => (bif (!y_8) then (F57_j2 n a_Kind a_Value a_Index a_Length true) else ((F135 n a_Kind a_Length).bind fun y_9 => (F57_j2 n a_Kind a_Value a_Index a_Length (!y_9))))))))) = some r := h
  refine TS.seq ?_
  have hq : (True) ∧ ((True) ∧ ((True) ∧ (True))) := ⟨trivial, ⟨trivial, ⟨trivial, trivial⟩⟩⟩
  refine TS.reg [] ?_ ?_
  · apply prop_of ?_ hq
    kernel_rfl
  refine XS.then ?_
  refine TS.seq ?_
  refine TS.seq ?_
  refine TS.cut (D := Bool) (fun d => match d with | x => (mkTs 52 [(1, (.ptr 0 [])), (31, (.bool x))], [(.box 101 (.st (.cons (.int .i64 a_Kind) (.cons (.int .i64 a_Value) (.cons (.int .i64 a_Index) (.int .i64 a_Length))))))])) (fun d => F57_j2 n a_Kind a_Value a_Index a_Length d = some r) ?_ ?_
  · rintro x h
    replace h : (bif x then (some (([] : List UInt8), (1 : Int))) else (bif subB (([128, 0, 2, 1, 2, 3, 0, 5, 128, 6, 0, 9, 128, 8, 163, 0, 35, 3, 35, 1, 33, 255, 161, 254, 33, 10, 33, 9] : List UInt8).length) (some (IntKind.wrap .i64 ((IntKind.wrap .i64 ((2 : Int) * a_Kind)) - (2 : Int)))) (some (IntKind.wrap .i64 ((2 : Int) * a_Kind))) then ((F65 n a_Value).bind fun y_3 => (bif (decide (((([128, 0, 2, 1, 2, 3, 0, 5, 128, 6, 0, 9, 128, 8, 163, 0, 35, 3, 35, 1, 33, 255, 161, 254, 33, 10, 33, 9] : List UInt8).take (IntKind.wrap .i64 ((2 : Int) * a_Kind)).toNat).drop (IntKind.wrap .i64 ((IntKind.wrap .i64 ((2 : Int) * a_Kind)) - (2 : Int))).toNat).length + y_3.length ≤ 9223372036854775807)) then ((F65 n a_Index).bind fun y_4 => (bif (decide ((((([128, 0, 2, 1, 2, 3, 0, 5, 128, 6, 0, 9, 128, 8, 163, 0, 35, 3, 35, 1, 33, 255, 161, 254, 33, 10, 33, 9] : List UInt8).take (IntKind.wrap .i64 ((2 : Int) * a_Kind)).toNat).drop (IntKind.wrap .i64 ((IntKind.wrap .i64 ((2 : Int) * a_Kind)) - (2 : Int))).toNat) ++ y_3).length + y_4.length ≤ 9223372036854775807)) then ((F65 n a_Length).bind fun y_5 => (bif (decide (((((([128, 0, 2, 1, 2, 3, 0, 5, 128, 6, 0, 9, 128, 8, 163, 0, 35, 3, 35, 1, 33, 255, 161, 254, 33, 10, 33, 9] : List UInt8).take (IntKind.wrap .i64 ((2 : Int) * a_Kind)).toNat).drop (IntKind.wrap .i64 ((IntKind.wrap .i64 ((2 : Int) * a_Kind)) - (2 : Int))).toNat) ++ y_3) ++ y_4).length + y_5.length ≤ 9223372036854775807)) then (some ((((((([128, 0, 2, 1, 2, 3, 0, 5, 128, 6, 0, 9, 128, 8, 163, 0, 35, 3, 35, 1, 33, 255, 161, 254, 33, 10, 33, 9] : List UInt8).take (IntKind.wrap .i64 ((2 : Int) * a_Kind)).toNat).drop (IntKind.wrap .i64 ((IntKind.wrap .i64 ((2 : Int) * a_Kind)) - (2 : Int))).toNat) ++ y_3) ++ y_4) ++ y_5), (0 : Int))) else none)) else none)) else none)) else none)) = some r := h
    refine XS.then ?_
    rcases bif_some h with ⟨c1, h⟩ | ⟨c2, h⟩
    · refine TS.cond x ?_ (fun hcz => ?_) (fun hcz => by rw [c1] at hcz; cases hcz)
      · kernel_rfl
      refine TS.seq ?_
      have hq : (True) ∧ ((True) ∧ (True)) := ⟨trivial, ⟨trivial, trivial⟩⟩
      refine TS.reg [] ?_ ?_
      · apply prop_of ?_ hq
        kernel_rfl
      refine XS.then ?_
      refine TS.ret ?_
      refine XS.passR ?_
      obtain rfl : (([] : List UInt8), (1 : Int)) = r := Option.some.inj h
      exact XS.fin [] ((True) ∧ ((True) ∧ (True))) (by kernel_rfl) ⟨trivial, ⟨trivial, trivial⟩⟩
    · refine TS.cond x ?_ (fun hcz => by rw [c2] at hcz; cases hcz) (fun hcz => ?_)
      · kernel_rfl
      refine TS.skip ?_
      refine XS.then ?_
      refine TS.seq ?_
      obtain ⟨t3, h⟩ := test_some h
      obtain ⟨y_3, hx4, h⟩ := bind_some' h
      obtain ⟨t5, h⟩ := test_some h
      obtain ⟨y_4, hx6, h⟩ := bind_some' h
      obtain ⟨t7, h⟩ := test_some h
      obtain ⟨y_5, hx8, h⟩ := bind_some' h
      obtain ⟨t9, h⟩ := test_some h
      have hq : ((True) ∧ ((True) ∧ ((True) ∧ ((True) ∧ ((True) ∧ ((True) ∧ ((True) ∧ ((subC ([128, 0, 2, 1, 2, 3, 0, 5, 128, 6, 0, 9, 128, 8, 163, 0, 35, 3, 35, 1, 33, 255, 161, 254, 33, 10, 33, 9] : List UInt8).length (some (IntKind.wrap .i64 ((IntKind.wrap .i64 ((2 : Int) * a_Kind)) - (2 : Int)))) (some (IntKind.wrap .i64 ((2 : Int) * a_Kind)))) ∧ ((True) ∧ ((True) ∧ ((PureC Try.prog 65 [(.int .i64 a_Value)] (.str y_3) []) ∧ ((((([128, 0, 2, 1, 2, 3, 0, 5, 128, 6, 0, 9, 128, 8, 163, 0, 35, 3, 35, 1, 33, 255, 161, 254, 33, 10, 33, 9] : List UInt8).take (IntKind.wrap .i64 ((2 : Int) * a_Kind)).toNat).drop (IntKind.wrap .i64 ((IntKind.wrap .i64 ((2 : Int) * a_Kind)) - (2 : Int))).toNat).length + y_3.length ≤ 9223372036854775807) ∧ ((True) ∧ ((True) ∧ ((PureC Try.prog 65 [(.int .i64 a_Index)] (.str y_4) []) ∧ (((((([128, 0, 2, 1, 2, 3, 0, 5, 128, 6, 0, 9, 128, 8, 163, 0, 35, 3, 35, 1, 33, 255, 161, 254, 33, 10, 33, 9] : List UInt8).take (IntKind.wrap .i64 ((2 : Int) * a_Kind)).toNat).drop (IntKind.wrap .i64 ((IntKind.wrap .i64 ((2 : Int) * a_Kind)) - (2 : Int))).toNat) ++ y_3).length + y_4.length ≤ 9223372036854775807) ∧ ((True) ∧ ((True) ∧ ((PureC Try.prog 65 [(.int .i64 a_Length)] (.str y_5) []) ∧ ((((((([128, 0, 2, 1, 2, 3, 0, 5, 128, 6, 0, 9, 128, 8, 163, 0, 35, 3, 35, 1, 33, 255, 161, 254, 33, 10, 33, 9] : List UInt8).take (IntKind.wrap .i64 ((2 : Int) * a_Kind)).toNat).drop (IntKind.wrap .i64 ((IntKind.wrap .i64 ((2 : Int) * a_Kind)) - (2 : Int))).toNat) ++ y_3) ++ y_4).length + y_5.length ≤ 9223372036854775807) ∧ (True))))))))))))))))))))) ∧ ((True) ∧ ((True) ∧ (True))) := ⟨⟨trivial, ⟨trivial, ⟨trivial, ⟨trivial, ⟨trivial, ⟨trivial, ⟨trivial, ⟨subB_ok t3, ⟨trivial, ⟨trivial, ⟨F65_ok n a_Value y_3 hx4, ⟨of_decide_eq_true t5, ⟨trivial, ⟨trivial, ⟨F65_ok n a_Index y_4 hx6, ⟨of_decide_eq_true t7, ⟨trivial, ⟨trivial, ⟨F65_ok n a_Length y_5 hx8, ⟨of_decide_eq_true t9, trivial⟩⟩⟩⟩⟩⟩⟩⟩⟩⟩⟩⟩⟩⟩⟩⟩⟩⟩⟩⟩, ⟨trivial, ⟨trivial, trivial⟩⟩⟩
      refine TS.draw 20 [] [.none, .none, .none, .none, .none, .none, .none, .none, .none, .none, (.call (.str y_3) []), .none, .none, .none, (.call (.str y_4) []), .none, .none, .none, (.call (.str y_5) [])] (by kernel_rfl) ?_ ?_
      · apply prop_of ?_ hq
        kernel_rfl
      refine XS.then ?_
      refine TS.ret ?_
      obtain rfl : ((((((([128, 0, 2, 1, 2, 3, 0, 5, 128, 6, 0, 9, 128, 8, 163, 0, 35, 3, 35, 1, 33, 255, 161, 254, 33, 10, 33, 9] : List UInt8).take (IntKind.wrap .i64 ((2 : Int) * a_Kind)).toNat).drop (IntKind.wrap .i64 ((IntKind.wrap .i64 ((2 : Int) * a_Kind)) - (2 : Int))).toNat) ++ y_3) ++ y_4) ++ y_5), (0 : Int)) = r := Option.some.inj h
      exact XS.fin [] ((True) ∧ ((True) ∧ (True))) (by kernel_rfl) ⟨trivial, ⟨trivial, trivial⟩⟩
  · obtain ⟨y_6, hx10, h⟩ := bind_some' h
    rcases bif_some h with ⟨c11, h⟩ | ⟨c12, h⟩
    · have hq : (True) ∧ ((True) ∧ ((PureC Try.prog 15 [(.int .i64 a_Kind), (.int .i64 (1 : Int)), (.int .i64 (14 : Int))] (.bool y_6) []) ∧ ((True) ∧ (((True) ∧ (!y_6) = true) ∧ ((True) ∧ ((True) ∧ ((True) ∧ ((True) ∧ ((True) ∧ (True)))))))))) := ⟨trivial, ⟨trivial, ⟨F15_ok n a_Kind (1 : Int) (14 : Int) y_6 hx10, ⟨trivial, ⟨⟨trivial, c11⟩, ⟨trivial, ⟨trivial, ⟨trivial, ⟨trivial, ⟨trivial, trivial⟩⟩⟩⟩⟩⟩⟩⟩⟩⟩
      refine TS.reg [.none, .none, (.call (.bool y_6) []), .none, .dec true] ?_ ?_
      · apply prop_of ?_ hq
        kernel_rfl
      refine XS.reAny [0] (mkMask 52 [1, 31]) true h ?_
      kernel_rfl
    · obtain ⟨y_7, hx13, h⟩ := bind_some' h
      rcases bif_some h with ⟨c14, h⟩ | ⟨c15, h⟩
      · have hq : (True) ∧ ((True) ∧ ((PureC Try.prog 15 [(.int .i64 a_Kind), (.int .i64 (1 : Int)), (.int .i64 (14 : Int))] (.bool y_6) []) ∧ ((True) ∧ (((True) ∧ (!y_6) = false) ∧ ((True) ∧ ((True) ∧ ((True) ∧ ((True) ∧ ((PureC Try.prog 133 [(.int .i64 a_Kind), (.int .i64 a_Value)] (.bool y_7) []) ∧ ((True) ∧ ((True) ∧ (((True) ∧ (!y_7) = true) ∧ ((True) ∧ ((True) ∧ ((True) ∧ (True)))))))))))))))) := ⟨trivial, ⟨trivial, ⟨F15_ok n a_Kind (1 : Int) (14 : Int) y_6 hx10, ⟨trivial, ⟨⟨trivial, c12⟩, ⟨trivial, ⟨trivial, ⟨trivial, ⟨trivial, ⟨F133_ok n a_Kind a_Value y_7 hx13, ⟨trivial, ⟨trivial, ⟨⟨trivial, c14⟩, ⟨trivial, ⟨trivial, ⟨trivial, trivial⟩⟩⟩⟩⟩⟩⟩⟩⟩⟩⟩⟩⟩⟩⟩⟩
        refine TS.reg [.none, .none, (.call (.bool y_6) []), .none, .dec false, .none, .none, .none, .none, (.call (.bool y_7) []), .none, .none, .dec true] ?_ ?_
        · apply prop_of ?_ hq
          kernel_rfl
        refine XS.reAny [0] (mkMask 52 [1, 31]) true h ?_
        kernel_rfl
      · obtain ⟨y_8, hx16, h⟩ := bind_some' h
        rcases bif_some h with ⟨c17, h⟩ | ⟨c18, h⟩
        · have hq : (True) ∧ ((True) ∧ ((PureC Try.prog 15 [(.int .i64 a_Kind), (.int .i64 (1 : Int)), (.int .i64 (14 : Int))] (.bool y_6) []) ∧ ((True) ∧ (((True) ∧ (!y_6) = false) ∧ ((True) ∧ ((True) ∧ ((True) ∧ ((True) ∧ ((PureC Try.prog 133 [(.int .i64 a_Kind), (.int .i64 a_Value)] (.bool y_7) []) ∧ ((True) ∧ ((True) ∧ (((True) ∧ (!y_7) = false) ∧ ((True) ∧ ((True) ∧ ((True) ∧ ((True) ∧ ((PureC Try.prog 134 [(.int .i64 a_Kind), (.int .i64 a_Index)] (.bool y_8) []) ∧ ((True) ∧ ((True) ∧ (((True) ∧ (!y_8) = true) ∧ ((True) ∧ (True)))))))))))))))))))))) := ⟨trivial, ⟨trivial, ⟨F15_ok n a_Kind (1 : Int) (14 : Int) y_6 hx10, ⟨trivial, ⟨⟨trivial, c12⟩, ⟨trivial, ⟨trivial, ⟨trivial, ⟨trivial, ⟨F133_ok n a_Kind a_Value y_7 hx13, ⟨trivial, ⟨trivial, ⟨⟨trivial, c15⟩, ⟨trivial, ⟨trivial, ⟨trivial, ⟨trivial, ⟨F134_ok n a_Kind a_Index y_8 hx16, ⟨trivial, ⟨trivial, ⟨⟨trivial, c17⟩, ⟨trivial, trivial⟩⟩⟩⟩⟩⟩⟩⟩⟩⟩⟩⟩⟩⟩⟩⟩⟩⟩⟩⟩⟩⟩
          refine TS.reg [.none, .none, (.call (.bool y_6) []), .none, .dec false, .none, .none, .none, .none, (.call (.bool y_7) []), .none, .none, .dec false, .none, .none, .none, .none, (.call (.bool y_8) []), .none, .none, .dec true] ?_ ?_
          · apply prop_of ?_ hq
            kernel_rfl
          refine XS.reAny [0] (mkMask 52 [1, 31]) true h ?_
          kernel_rfl
        · obtain ⟨y_9, hx19, h⟩ := bind_some' h
          have hq : (True) ∧ ((True) ∧ ((PureC Try.prog 15 [(.int .i64 a_Kind), (.int .i64 (1 : Int)), (.int .i64 (14 : Int))] (.bool y_6) []) ∧ ((True) ∧ (((True) ∧ (!y_6) = false) ∧ ((True) ∧ ((True) ∧ ((True) ∧ ((True) ∧ ((PureC Try.prog 133 [(.int .i64 a_Kind), (.int .i64 a_Value)] (.bool y_7) []) ∧ ((True) ∧ ((True) ∧ (((True) ∧ (!y_7) = false) ∧ ((True) ∧ ((True) ∧ ((True) ∧ ((True) ∧ ((PureC Try.prog 134 [(.int .i64 a_Kind), (.int .i64 a_Index)] (.bool y_8) []) ∧ ((True) ∧ ((True) ∧ (((True) ∧ (!y_8) = false) ∧ ((True) ∧ ((True) ∧ ((True) ∧ ((True) ∧ ((PureC Try.prog 135 [(.int .i64 a_Kind), (.int .i64 a_Length)] (.bool y_9) []) ∧ ((True) ∧ ((True) ∧ (True)))))))))))))))))))))))))))) := ⟨trivial, ⟨trivial, ⟨F15_ok n a_Kind (1 : Int) (14 : Int) y_6 hx10, ⟨trivial, ⟨⟨trivial, c12⟩, ⟨trivial, ⟨trivial, ⟨trivial, ⟨trivial, ⟨F133_ok n a_Kind a_Value y_7 hx13, ⟨trivial, ⟨trivial, ⟨⟨trivial, c15⟩, ⟨trivial, ⟨trivial, ⟨trivial, ⟨trivial, ⟨F134_ok n a_Kind a_Index y_8 hx16, ⟨trivial, ⟨trivial, ⟨⟨trivial, c18⟩, ⟨trivial, ⟨trivial, ⟨trivial, ⟨trivial, ⟨F135_ok n a_Kind a_Length y_9 hx19, ⟨trivial, ⟨trivial, trivial⟩⟩⟩⟩⟩⟩⟩⟩⟩⟩⟩⟩⟩⟩⟩⟩⟩⟩⟩⟩⟩⟩⟩⟩⟩⟩⟩⟩
          refine TS.reg [.none, .none, (.call (.bool y_6) []), .none, .dec false, .none, .none, .none, .none, (.call (.bool y_7) []), .none, .none, .dec false, .none, .none, .none, .none, (.call (.bool y_8) []), .none, .none, .dec false, .none, .none, .none, .none, (.call (.bool y_9) [])] ?_ ?_
          · apply prop_of ?_ hq
            kernel_rfl
          refine XS.reAny [0] (mkMask 52 [1, 31]) (!y_9) h ?_
          kernel_rfl

/-! plugtree/plugref.ReadAsk -/
def F93_l2 (n : Nat) (s : List UInt8) (k93_2 : Int → Option (Int × Int × Int × Int × Int)) : Int → Option (Int × Int × Int × Int × Int)
  | k => (bif (decide (k < (28 : Int))) then (bif subB (([128, 0, 2, 1, 2, 3, 0, 5, 128, 6, 0, 9, 128, 8, 163, 0, 35, 3, 35, 1, 33, 255, 161, 254, 33, 10, 33, 9] : List UInt8).length) (some k) (some (IntKind.wrap .i64 (k + (2 : Int)))) then ((F103 n s ((([128, 0, 2, 1, 2, 3, 0, 5, 128, 6, 0, 9, 128, 8, 163, 0, 35, 3, 35, 1, 33, 255, 161, 254, 33, 10, 33, 9] : List UInt8).take (IntKind.wrap .i64 (k + (2 : Int))).toNat).drop k.toNat)).bind fun y_6 => (bif y_6 then ((F126 n s (2 : Int)).bind fun y_7 => ((F126 n s (4 : Int)).bind fun y_8 => ((F126 n s (6 : Int)).bind fun y_9 => ((F57 n (IntKind.wrap .i64 ((IntKind.wrap .i64 (k.tdiv (2 : Int))) + (1 : Int))) y_7 y_8 y_9).bind fun y_10 => (bif (y_10.2 != (0 : Int)) then (some ((0 : Int), (0 : Int), (0 : Int), (0 : Int), (12 : Int))) else (some ((IntKind.wrap .i64 ((IntKind.wrap .i64 (k.tdiv (2 : Int))) + (1 : Int))), y_7, y_8, y_9, (0 : Int)))))))) else (k93_2 (IntKind.wrap .i64 (k + (2 : Int)))))) else none) else (some ((0 : Int), (0 : Int), (0 : Int), (0 : Int), (12 : Int))))
def F93 (n : Nat) (s : List UInt8) : Option (Int × Int × Int × Int × Int) := (bif (((s.length : Nat) : Int) != (8 : Int)) then (bif (decide (((s.length : Nat) : Int) < (8 : Int))) then (some ((0 : Int), (0 : Int), (0 : Int), (0 : Int), (3 : Int))) else (some ((0 : Int), (0 : Int), (0 : Int), (0 : Int), (4 : Int)))) else (loopF (F93_l2 n s) n (0 : Int)))
theorem F93_ok (n : Nat) (s : List UInt8) (r : Int × Int × Int × Int × Int) (h : F93 n s = some r) : PureC Try.prog 93 [(.str s)] (.tup (.cons (.st (.cons (.int .i64 r.1) (.cons (.int .i64 r.2.1) (.cons (.int .i64 r.2.2.1) (.int .i64 r.2.2.2.1))))) (.cons (.int .i64 r.2.2.2.2) .nil))) [] := by
  refine PureC.mkS Try.func93 rfl rfl ?_
  intro w0 fz0 hfz
  replace h : (bif (((s.length : Nat) : Int) != (8 : Int)) then (bif (decide (((s.length : Nat) : Int) < (8 : Int))) then (some ((0 : Int), (0 : Int), (0 : Int), (0 : Int), (3 : Int))) else (some ((0 : Int), (0 : Int), (0 : Int), (0 : Int), (4 : Int)))) else (loopF (F93_l2 n s) n (0 : Int))) = some r := h
  refine TS.seq ?_
  have hq : (True) ∧ ((True) ∧ (True)) := ⟨trivial, ⟨trivial, trivial⟩⟩
  refine TS.reg [] ?_ ?_
  · apply prop_of ?_ hq
    kernel_rfl
  refine XS.then ?_
  refine TS.seq ?_
  refine TS.seq ?_
  have hq : (True) ∧ ((True) ∧ ((True) ∧ (True))) := ⟨trivial, ⟨trivial, ⟨trivial, trivial⟩⟩⟩
  refine TS.reg [] ?_ ?_
  · apply prop_of ?_ hq
    kernel_rfl
  refine XS.then ?_
  rcases bif_some h with ⟨c1, h⟩ | ⟨c2, h⟩
  · refine TS.cond (((s.length : Nat) : Int) != (8 : Int)) ?_ (fun hcz => ?_) (fun hcz => by rw [c1] at hcz; cases hcz)
    · kernel_rfl
    refine TS.seq ?_
    refine TS.seq ?_
    have hq : (True) ∧ ((True) ∧ ((True) ∧ (True))) := ⟨trivial, ⟨trivial, ⟨trivial, trivial⟩⟩⟩
    refine TS.reg [] ?_ ?_
    · apply prop_of ?_ hq
      kernel_rfl
    refine XS.then ?_
    rcases bif_some h with ⟨c3, h⟩ | ⟨c4, h⟩
    · refine TS.cond (decide (((s.length : Nat) : Int) < (8 : Int))) ?_ (fun hcz => ?_) (fun hcz => by rw [c3] at hcz; cases hcz)
      · kernel_rfl
      refine TS.seq ?_
      have hq : (True) ∧ ((True) ∧ ((True) ∧ (True))) := ⟨trivial, ⟨trivial, ⟨trivial, trivial⟩⟩⟩
      refine TS.reg [] ?_ ?_
      · apply prop_of ?_ hq
        kernel_rfl
      refine XS.then ?_
      refine TS.ret ?_
      refine XS.passR ?_
      refine XS.passR ?_
      obtain rfl : ((0 : Int), (0 : Int), (0 : Int), (0 : Int), (3 : Int)) = r := Option.some.inj h
      exact XS.fin [] ((True) ∧ ((True) ∧ (True))) (by kernel_rfl) ⟨trivial, ⟨trivial, trivial⟩⟩
    · refine TS.cond (decide (((s.length : Nat) : Int) < (8 : Int))) ?_ (fun hcz => by rw [c4] at hcz; cases hcz) (fun hcz => ?_)
      · kernel_rfl
      refine TS.skip ?_
      refine XS.then ?_
      refine TS.seq ?_
      have hq : (True) ∧ ((True) ∧ ((True) ∧ (True))) := ⟨trivial, ⟨trivial, ⟨trivial, trivial⟩⟩⟩
      refine TS.reg [] ?_ ?_
      · apply prop_of ?_ hq
        kernel_rfl
      refine XS.then ?_
      refine TS.ret ?_
      refine XS.passR ?_
      obtain rfl : ((0 : Int), (0 : Int), (0 : Int), (0 : Int), (4 : Int)) = r := Option.some.inj h
      exact XS.fin [] ((True) ∧ ((True) ∧ (True))) (by kernel_rfl) ⟨trivial, ⟨trivial, trivial⟩⟩
  · refine TS.cond (((s.length : Nat) : Int) != (8 : Int)) ?_ (fun hcz => by rw [c2] at hcz; cases hcz) (fun hcz => ?_)
    · kernel_rfl
    refine TS.skip ?_
    refine XS.then ?_
    refine TS.seq ?_
    refine TS.seq ?_
    have hq : (True) ∧ (True) := ⟨trivial, trivial⟩
    refine TS.reg [] ?_ ?_
    · apply prop_of ?_ hq
      kernel_rfl
    refine XS.then ?_
    refine TS.block ?_
    refine TS.reLoop [0] (mkMask 45 [0, 2, 4]) (D := Int) (fun d => match d with | k => (mkTs 45 [(0, (.str s)), (2, (.ptr 0 [])), (4, (.int .i64 k))], [(.box 101 (.st (.cons (.int .i64 (0 : Int)) (.cons (.int .i64 (0 : Int)) (.cons (.int .i64 (0 : Int)) (.int .i64 (0 : Int)))))))])) (fun n' d => loopF (F93_l2 n s) n' d = some r) n (0 : Int) h ?_ (fun d => loopF_zero _ d r) ?_
    · kernel_rfl
    · rintro n2 k h
      replace h : (bif (decide (k < (28 : Int))) then (bif subB (([128, 0, 2, 1, 2, 3, 0, 5, 128, 6, 0, 9, 128, 8, 163, 0, 35, 3, 35, 1, 33, 255, 161, 254, 33, 10, 33, 9] : List UInt8).length) (some k) (some (IntKind.wrap .i64 (k + (2 : Int)))) then ((F103 n s ((([128, 0, 2, 1, 2, 3, 0, 5, 128, 6, 0, 9, 128, 8, 163, 0, 35, 3, 35, 1, 33, 255, 161, 254, 33, 10, 33, 9] : List UInt8).take (IntKind.wrap .i64 (k + (2 : Int))).toNat).drop k.toNat)).bind fun y_6 => (bif y_6 then ((F126 n s (2 : Int)).bind fun y_7 => ((F126 n s (4 : Int)).bind fun y_8 => ((F126 n s (6 : Int)).bind fun y_9 => ((F57 n (IntKind.wrap .i64 ((IntKind.wrap .i64 (k.tdiv (2 : Int))) + (1 : Int))) y_7 y_8 y_9).bind fun y_10 => (bif (y_10.2 != (0 : Int)) then (some ((0 : Int), (0 : Int), (0 : Int), (0 : Int), (12 : Int))) else (some ((IntKind.wrap .i64 ((IntKind.wrap .i64 (k.tdiv (2 : Int))) + (1 : Int))), y_7, y_8, y_9, (0 : Int)))))))) else ((loopF (F93_l2 n s) n2) (IntKind.wrap .i64 (k + (2 : Int)))))) else none) else (some ((0 : Int), (0 : Int), (0 : Int), (0 : Int), (12 : Int)))) = some r := h
      refine TS.seq ?_
      refine TS.seq ?_
      have hq : (True) ∧ ((True) ∧ (True)) := ⟨trivial, ⟨trivial, trivial⟩⟩
      refine TS.reg [] ?_ ?_
      · apply prop_of ?_ hq
        kernel_rfl
      refine XS.then ?_
      rcases bif_some h with ⟨c5, h⟩ | ⟨c6, h⟩
      · refine TS.cond (decide (k < (28 : Int))) ?_ (fun hcz => ?_) (fun hcz => by rw [c5] at hcz; cases hcz)
        · kernel_rfl
        refine TS.skip ?_
        refine XS.then ?_
        refine TS.seq ?_
        refine TS.block ?_
        refine TS.seq ?_
        obtain ⟨t7, h⟩ := test_some h
        obtain ⟨y_6, hx8, h⟩ := bind_some' h
        have hq : (True) ∧ ((True) ∧ ((True) ∧ ((True) ∧ ((subC ([128, 0, 2, 1, 2, 3, 0, 5, 128, 6, 0, 9, 128, 8, 163, 0, 35, 3, 35, 1, 33, 255, 161, 254, 33, 10, 33, 9] : List UInt8).length (some k) (some (IntKind.wrap .i64 (k + (2 : Int))))) ∧ ((PureC Try.prog 103 [(.str s), (.str ((([128, 0, 2, 1, 2, 3, 0, 5, 128, 6, 0, 9, 128, 8, 163, 0, 35, 3, 35, 1, 33, 255, 161, 254, 33, 10, 33, 9] : List UInt8).take (IntKind.wrap .i64 (k + (2 : Int))).toNat).drop k.toNat))] (.bool y_6) []) ∧ (True)))))) := ⟨trivial, ⟨trivial, ⟨trivial, ⟨trivial, ⟨subB_ok t7, ⟨F103_ok n s ((([128, 0, 2, 1, 2, 3, 0, 5, 128, 6, 0, 9, 128, 8, 163, 0, 35, 3, 35, 1, 33, 255, 161, 254, 33, 10, 33, 9] : List UInt8).take (IntKind.wrap .i64 (k + (2 : Int))).toNat).drop k.toNat) y_6 hx8, trivial⟩⟩⟩⟩⟩⟩
        refine TS.reg [.none, .none, .none, .none, .none, (.call (.bool y_6) [])] ?_ ?_
        · apply prop_of ?_ hq
          kernel_rfl
        refine XS.then ?_
        rcases bif_some h with ⟨c9, h⟩ | ⟨c10, h⟩
        · refine TS.cond y_6 ?_ (fun hcz => ?_) (fun hcz => by rw [c9] at hcz; cases hcz)
          · kernel_rfl
          refine TS.seq ?_
          obtain ⟨y_7, hx11, h⟩ := bind_some' h
          obtain ⟨y_8, hx12, h⟩ := bind_some' h
          obtain ⟨y_9, hx13, h⟩ := bind_some' h
          have hq : (True) ∧ (((2 : Int) ≠ 0) ∧ ((True) ∧ ((True) ∧ ((PureC Try.prog 126 [(.str s), (.int .i64 (2 : Int))] (.int .i64 y_7) []) ∧ ((True) ∧ ((PureC Try.prog 126 [(.str s), (.int .i64 (4 : Int))] (.int .i64 y_8) []) ∧ ((True) ∧ ((PureC Try.prog 126 [(.str s), (.int .i64 (6 : Int))] (.int .i64 y_9) []) ∧ (((True) ∧ ((True) ∧ ((True) ∧ ((True) ∧ (True))))) ∧ ((True) ∧ ((True) ∧ (True)))))))))))) := ⟨trivial, ⟨by decide, ⟨trivial, ⟨trivial, ⟨F126_ok n s (2 : Int) y_7 hx11, ⟨trivial, ⟨F126_ok n s (4 : Int) y_8 hx12, ⟨trivial, ⟨F126_ok n s (6 : Int) y_9 hx13, ⟨⟨trivial, ⟨trivial, ⟨trivial, ⟨trivial, trivial⟩⟩⟩⟩, ⟨trivial, ⟨trivial, trivial⟩⟩⟩⟩⟩⟩⟩⟩⟩⟩⟩⟩
          refine TS.reg [.none, .none, .none, .none, (.call (.int .i64 y_7) []), .none, (.call (.int .i64 y_8) []), .none, (.call (.int .i64 y_9) [])] ?_ ?_
          · apply prop_of ?_ hq
            kernel_rfl
          refine XS.then ?_
          refine TS.seq ?_
          refine TS.seq ?_
          obtain ⟨y_10, hx14, h⟩ := bind_some' h
          have hq : (True) ∧ ((PureC Try.prog 57 [(.st (.cons (.int .i64 (IntKind.wrap .i64 ((IntKind.wrap .i64 (k.tdiv (2 : Int))) + (1 : Int)))) (.cons (.int .i64 y_7) (.cons (.int .i64 y_8) (.int .i64 y_9)))))] (.tup (.cons (.str y_10.1) (.cons (.int .i64 y_10.2) .nil))) []) ∧ ((True) ∧ ((True) ∧ ((True) ∧ ((True) ∧ ((True) ∧ (True))))))) := ⟨trivial, ⟨F57_ok n (IntKind.wrap .i64 ((IntKind.wrap .i64 (k.tdiv (2 : Int))) + (1 : Int))) y_7 y_8 y_9 y_10 hx14, ⟨trivial, ⟨trivial, ⟨trivial, ⟨trivial, ⟨trivial, trivial⟩⟩⟩⟩⟩⟩⟩
          refine TS.reg [.none, (.call (.tup (.cons (.str y_10.1) (.cons (.int .i64 y_10.2) .nil))) [])] ?_ ?_
          · apply prop_of ?_ hq
            kernel_rfl
          refine XS.then ?_
          refine TS.seq ?_
          have hq : (True) ∧ ((True) ∧ (True)) := ⟨trivial, ⟨trivial, trivial⟩⟩
          refine TS.reg [] ?_ ?_
          · apply prop_of ?_ hq
            kernel_rfl
          refine XS.then ?_
          rcases bif_some h with ⟨c15, h⟩ | ⟨c16, h⟩
          · refine TS.cond (y_10.2 != (0 : Int)) ?_ (fun hcz => ?_) (fun hcz => by rw [c15] at hcz; cases hcz)
            · kernel_rfl
            refine TS.exit ?_
            refine XS.passE ?_
            refine XS.through (by decide) ?_
            refine XS.passE ?_
            refine XS.passE ?_
            refine XS.out ?_
            refine XS.then ?_
            refine TS.seq ?_
            have hq : (True) ∧ ((True) ∧ ((True) ∧ (True))) := ⟨trivial, ⟨trivial, ⟨trivial, trivial⟩⟩⟩
            refine TS.reg [] ?_ ?_
            · apply prop_of ?_ hq
              kernel_rfl
            refine XS.then ?_
            refine TS.ret ?_
            obtain rfl : ((0 : Int), (0 : Int), (0 : Int), (0 : Int), (12 : Int)) = r := Option.some.inj h
            exact XS.fin [] ((True) ∧ ((True) ∧ (True))) (by kernel_rfl) ⟨trivial, ⟨trivial, trivial⟩⟩
          · refine TS.cond (y_10.2 != (0 : Int)) ?_ (fun hcz => by rw [c16] at hcz; cases hcz) (fun hcz => ?_)
            · kernel_rfl
            refine TS.skip ?_
            refine XS.then ?_
            refine TS.seq ?_
            have hq : (True) ∧ ((True) ∧ ((True) ∧ (True))) := ⟨trivial, ⟨trivial, ⟨trivial, trivial⟩⟩⟩
            refine TS.reg [] ?_ ?_
            · apply prop_of ?_ hq
              kernel_rfl
            refine XS.then ?_
            refine TS.ret ?_
            refine XS.blockRet ?_
            refine XS.passR ?_
            refine XS.passR ?_
            refine XS.blockRet ?_
            refine XS.passR ?_
            obtain rfl : ((IntKind.wrap .i64 ((IntKind.wrap .i64 (k.tdiv (2 : Int))) + (1 : Int))), y_7, y_8, y_9, (0 : Int)) = r := Option.some.inj h
            exact XS.fin [] ((True) ∧ ((True) ∧ (True))) (by kernel_rfl) ⟨trivial, ⟨trivial, trivial⟩⟩
        · refine TS.cond y_6 ?_ (fun hcz => by rw [c10] at hcz; cases hcz) (fun hcz => ?_)
          · kernel_rfl
          refine TS.skip ?_
          refine XS.blockEnd ?_
          refine XS.then ?_
          have hq : (True) ∧ ((True) ∧ ((True) ∧ (True))) := ⟨trivial, ⟨trivial, ⟨trivial, trivial⟩⟩⟩
          refine TS.reg [] ?_ ?_
          · apply prop_of ?_ hq
            kernel_rfl
          refine XS.reAny [0] (mkMask 45 [0, 2, 4]) (IntKind.wrap .i64 (k + (2 : Int))) h ?_
          kernel_rfl
      · refine TS.cond (decide (k < (28 : Int))) ?_ (fun hcz => by rw [c6] at hcz; cases hcz) (fun hcz => ?_)
        · kernel_rfl
        refine TS.exit ?_
        refine XS.passE ?_
        refine XS.passE ?_
        refine XS.out ?_
        refine XS.then ?_
        refine TS.seq ?_
        have hq : (True) ∧ ((True) ∧ ((True) ∧ (True))) := ⟨trivial, ⟨trivial, ⟨trivial, trivial⟩⟩⟩
        refine TS.reg [] ?_ ?_
        · apply prop_of ?_ hq
          kernel_rfl
        refine XS.then ?_
        refine TS.ret ?_
        obtain rfl : ((0 : Int), (0 : Int), (0 : Int), (0 : Int), (12 : Int)) = r := Option.some.inj h
        exact XS.fin [] ((True) ∧ ((True) ∧ (True))) (by kernel_rfl) ⟨trivial, ⟨trivial, trivial⟩⟩

/-! plugtree/plugref.with -/
def F177 (n : Nat) (vn : Int) (bit : Int) : Option Int := (bif (bit != 0) then (bif (((IntKind.wrap .i64 (vn.tdiv bit)).tmod (2 : Int)) == (1 : Int)) then (some vn) else (some (IntKind.wrap .i64 (vn + bit)))) else none)
theorem F177_ok (n : Nat) (vn : Int) (bit : Int) (r : Int) (h : F177 n vn bit = some r) : PureC Try.prog 177 [(.int .i64 vn), (.int .i64 bit)] (.int .i64 r) [] := by
  refine PureC.mkS Try.func177 rfl rfl ?_
  intro w0 fz0 hfz
  replace h : (bif (bit != 0) then (bif (((IntKind.wrap .i64 (vn.tdiv bit)).tmod (2 : Int)) == (1 : Int)) then (some vn) else (some (IntKind.wrap .i64 (vn + bit)))) else none) = some r := h
  refine TS.seq ?_
  have hq : (True) ∧ (True) := ⟨trivial, trivial⟩
  refine TS.reg [] ?_ ?_
  · apply prop_of ?_ hq
    kernel_rfl
  refine XS.then ?_
  refine TS.seq ?_
  refine TS.seq ?_
  obtain ⟨t1, h⟩ := test_some h
  have hq : (True) ∧ ((True) ∧ ((bit ≠ 0) ∧ (((2 : Int) ≠ 0) ∧ ((True) ∧ (True))))) := ⟨trivial, ⟨trivial, ⟨bne_ok t1, ⟨by decide, ⟨trivial, trivial⟩⟩⟩⟩⟩
  refine TS.reg [] ?_ ?_
  · apply prop_of ?_ hq
    kernel_rfl
  refine XS.then ?_
  rcases bif_some h with ⟨c2, h⟩ | ⟨c3, h⟩
  · refine TS.cond (((IntKind.wrap .i64 (vn.tdiv bit)).tmod (2 : Int)) == (1 : Int)) ?_ (fun hcz => ?_) (fun hcz => by rw [c2] at hcz; cases hcz)
    · kernel_rfl
    refine TS.seq ?_
    have hq : (True) ∧ ((True) ∧ (True)) := ⟨trivial, ⟨trivial, trivial⟩⟩
    refine TS.reg [] ?_ ?_
    · apply prop_of ?_ hq
      kernel_rfl
    refine XS.then ?_
    refine TS.ret ?_
    refine XS.passR ?_
    obtain rfl : vn = r := Option.some.inj h
    exact XS.fin [] ((True) ∧ (True)) (by kernel_rfl) ⟨trivial, trivial⟩
  · refine TS.cond (((IntKind.wrap .i64 (vn.tdiv bit)).tmod (2 : Int)) == (1 : Int)) ?_ (fun hcz => by rw [c3] at hcz; cases hcz) (fun hcz => ?_)
    · kernel_rfl
    refine TS.skip ?_
    refine XS.then ?_
    refine TS.seq ?_
    have hq : (True) ∧ ((True) ∧ ((True) ∧ ((True) ∧ (True)))) := ⟨trivial, ⟨trivial, ⟨trivial, ⟨trivial, trivial⟩⟩⟩⟩
    refine TS.reg [] ?_ ?_
    · apply prop_of ?_ hq
      kernel_rfl
    refine XS.then ?_
    refine TS.ret ?_
    obtain rfl : (IntKind.wrap .i64 (vn + bit)) = r := Option.some.inj h
    exact XS.fin [] ((True) ∧ (True)) (by kernel_rfl) ⟨trivial, trivial⟩

/-! plugtree/plugref.without -/
def F155 (n : Nat) (vn : Int) (bit : Int) : Option Int := ((F177 n vn bit).bind fun y_2 => (some (IntKind.wrap .i64 (y_2 - bit))))
theorem F155_ok (n : Nat) (vn : Int) (bit : Int) (r : Int) (h : F155 n vn bit = some r) : PureC Try.prog 155 [(.int .i64 vn), (.int .i64 bit)] (.int .i64 r) [] := by
  refine PureC.mkS Try.func155 rfl rfl ?_
  intro w0 fz0 hfz
  replace h : ((F177 n vn bit).bind fun y_2 => (some (IntKind.wrap .i64 (y_2 - bit)))) = some r := h
  refine TS.seq ?_
  have hq : (True) ∧ (True) := ⟨trivial, trivial⟩
  refine TS.reg [] ?_ ?_
  · apply prop_of ?_ hq
    kernel_rfl
  refine XS.then ?_
  refine TS.seq ?_
  obtain ⟨y_2, hx1, h⟩ := bind_some' h
  have hq : (True) ∧ ((True) ∧ ((PureC Try.prog 177 [(.int .i64 vn), (.int .i64 bit)] (.int .i64 y_2) []) ∧ ((True) ∧ ((True) ∧ ((True) ∧ (True)))))) := ⟨trivial, ⟨trivial, ⟨F177_ok n vn bit y_2 hx1, ⟨trivial, ⟨trivial, ⟨trivial, trivial⟩⟩⟩⟩⟩⟩
  refine TS.reg [.none, .none, (.call (.int .i64 y_2) [])] ?_ ?_
  · apply prop_of ?_ hq
    kernel_rfl
  refine XS.then ?_
  refine TS.ret ?_
  obtain rfl : (IntKind.wrap .i64 (y_2 - bit)) = r := Option.some.inj h
  exact XS.fin [] ((True) ∧ (True)) (by kernel_rfl) ⟨trivial, trivial⟩
end Go.Proofs.Ytmcjcioifgaihaa
