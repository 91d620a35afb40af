/- Functions of the program, as functions of values. -/
import Derived.Test.YtbeilpecdimheaaAm21
import Derived.Test.YtbeilpecdimheaaChecked
namespace Go.Proofs.Ytbeilpecdimheaa
open Go Go.RowKit
set_option linter.unusedVariables false
set_option maxRecDepth 100000

/-! plugtree/register.Check -/
def F21_l2 (n : Nat) (r_Rooms : List (Int × Bool × Int)) (k21_2 : Int → Option Int) : Int → Option Int
  | x => (bif (decide (x < (16 : Int))) then (bif inb x 16 then (bif (decide ((r_Rooms.getD x.toNat ((0 : Int), (false, (0 : Int)))).1 < (0 : Int))) then (some (4 : Int)) else (bif (decide ((r_Rooms.getD x.toNat ((0 : Int), (false, (0 : Int)))).1 > (65535 : Int))) then (some (4 : Int)) else (bif (r_Rooms.getD x.toNat ((0 : Int), (false, (0 : Int)))).2.1 then (bif ((r_Rooms.getD x.toNat ((0 : Int), (false, (0 : Int)))).1 == (0 : Int)) then (some (4 : Int)) else (bif (!(r_Rooms.getD x.toNat ((0 : Int), (false, (0 : Int)))).2.1) then (bif ((r_Rooms.getD x.toNat ((0 : Int), (false, (0 : Int)))).2.2 != (0 : Int)) then (some (4 : Int)) else (k21_2 (IntKind.wrap .i64 (x + (1 : Int))))) else (k21_2 (IntKind.wrap .i64 (x + (1 : Int)))))) else (bif (!(r_Rooms.getD x.toNat ((0 : Int), (false, (0 : Int)))).2.1) then (bif ((r_Rooms.getD x.toNat ((0 : Int), (false, (0 : Int)))).2.2 != (0 : Int)) then (some (4 : Int)) else (k21_2 (IntKind.wrap .i64 (x + (1 : Int))))) else (k21_2 (IntKind.wrap .i64 (x + (1 : Int)))))))) else none) else (some (0 : Int)))
def F21 (n : Nat) (r_Rooms : List (Int × Bool × Int)) : Option Int := (loopF (F21_l2 n r_Rooms) n (0 : Int))
theorem F21_ok (n : Nat) (r_Rooms : List (Int × Bool × Int)) (r : Int) (h : F21 n r_Rooms = some r) : PureC Try.prog 21 [(.st (.arr 16 (.st (.pair (.int .i64) (.pair .bool (.int .i64)))) r_Rooms))] (.int .i64 r) [] := by
  refine PureC.mkS Try.func21 rfl rfl ?_
  intro w0 fz0 hfz
  replace h : (loopF (F21_l2 n r_Rooms) n (0 : Int)) = some r := h
  refine TS.seq ?_
  have hq : (True) ∧ ((True) ∧ (True)) := ⟨trivial, ⟨trivial, trivial⟩⟩
  refine TS.reg [] ?_ ?_
  · apply prop_of ?_ hq
    kernel_rfl
  refine XS.then ?_
  refine TS.seq ?_
  refine TS.seq ?_
  have hq : (True) ∧ ((True) ∧ ((True) ∧ (True))) := ⟨trivial, ⟨trivial, ⟨trivial, trivial⟩⟩⟩
  refine TS.reg [] ?_ ?_
  · apply prop_of ?_ hq
    kernel_rfl
  refine XS.then ?_
  refine TS.block ?_
  refine TS.reLoop [] (mkMask 38 [6, 7]) (D := Int) (fun d => match d with | x => (mkTs 38 [(6, (.arr 16 (.st (.pair (.int .i64) (.pair .bool (.int .i64)))) r_Rooms)), (7, (.int .i64 x))], [])) (fun n' d => loopF (F21_l2 n r_Rooms) n' d = some r) n (0 : Int) h ?_ (fun d => loopF_zero _ d r) ?_
  · kernel_rfl
  · rintro n2 x h
    replace h : (bif (decide (x < (16 : Int))) then (bif inb x 16 then (bif (decide ((r_Rooms.getD x.toNat ((0 : Int), (false, (0 : Int)))).1 < (0 : Int))) then (some (4 : Int)) else (bif (decide ((r_Rooms.getD x.toNat ((0 : Int), (false, (0 : Int)))).1 > (65535 : Int))) then (some (4 : Int)) else (bif (r_Rooms.getD x.toNat ((0 : Int), (false, (0 : Int)))).2.1 then (bif ((r_Rooms.getD x.toNat ((0 : Int), (false, (0 : Int)))).1 == (0 : Int)) then (some (4 : Int)) else (bif (!(r_Rooms.getD x.toNat ((0 : Int), (false, (0 : Int)))).2.1) then (bif ((r_Rooms.getD x.toNat ((0 : Int), (false, (0 : Int)))).2.2 != (0 : Int)) then (some (4 : Int)) else ((loopF (F21_l2 n r_Rooms) n2) (IntKind.wrap .i64 (x + (1 : Int))))) else ((loopF (F21_l2 n r_Rooms) n2) (IntKind.wrap .i64 (x + (1 : Int)))))) else (bif (!(r_Rooms.getD x.toNat ((0 : Int), (false, (0 : Int)))).2.1) then (bif ((r_Rooms.getD x.toNat ((0 : Int), (false, (0 : Int)))).2.2 != (0 : Int)) then (some (4 : Int)) else ((loopF (F21_l2 n r_Rooms) n2) (IntKind.wrap .i64 (x + (1 : Int))))) else ((loopF (F21_l2 n r_Rooms) n2) (IntKind.wrap .i64 (x + (1 : Int)))))))) else none) else (some (0 : Int))) = some r := h
    refine TS.seq ?_
    have hq : (True) ∧ (True) := ⟨trivial, trivial⟩
    refine TS.reg [] ?_ ?_
    · apply prop_of ?_ hq
      kernel_rfl
    refine XS.then ?_
    refine TS.seq ?_
    rcases bif_some h with ⟨c1, h⟩ | ⟨c2, h⟩
    · refine TS.cond (decide (x < (16 : Int))) ?_ (fun e => ?_) (fun e => by rw [c1] at e; cases e)
      · kernel_rfl
      refine TS.skip ?_
      refine XS.then ?_
      refine TS.seq ?_
      refine TS.block ?_
      refine TS.seq ?_
      obtain ⟨t3, h⟩ := test_some h
      have hq : (inR x 16) ∧ ((True) ∧ ((True) ∧ (True))) := ⟨inb_ok t3, ⟨trivial, ⟨trivial, trivial⟩⟩⟩
      refine TS.reg [] ?_ ?_
      · apply prop_of ?_ hq
        kernel_rfl
      refine XS.then ?_
      refine TS.seq ?_
      rcases bif_some h with ⟨c4, h⟩ | ⟨c5, h⟩
      · have hq : (True) ∧ ((True) ∧ ((True) ∧ (((True) ∧ (decide ((r_Rooms.getD x.toNat ((0 : Int), (false, (0 : Int)))).1 < (0 : Int))) = true) ∧ ((True) ∧ ((True) ∧ ((True) ∧ ((True) ∧ ((True) ∧ (True))))))))) := ⟨trivial, ⟨trivial, ⟨trivial, ⟨⟨trivial, c4⟩, ⟨trivial, ⟨trivial, ⟨trivial, ⟨trivial, ⟨trivial, trivial⟩⟩⟩⟩⟩⟩⟩⟩⟩
        refine TS.reg [.none, .none, .none, .dec true] ?_ ?_
        · apply prop_of ?_ hq
          kernel_rfl
        refine XS.then ?_
        refine TS.yes ?_ ?_
        · kernel_rfl
        refine TS.seq ?_
        have hq : (True) ∧ (True) := ⟨trivial, trivial⟩
        refine TS.reg [] ?_ ?_
        · apply prop_of ?_ hq
          kernel_rfl
        refine XS.then ?_
        refine TS.ret ?_
        refine XS.blockRet ?_
        refine XS.passR ?_
        refine XS.passR ?_
        refine XS.blockRet ?_
        refine XS.passR ?_
        obtain rfl : (4 : Int) = r := Option.some.inj h
        exact XS.fin [] ((True) ∧ (True)) (by kernel_rfl) ⟨trivial, trivial⟩
      · rcases bif_some h with ⟨c6, h⟩ | ⟨c7, h⟩
        · have hq : (True) ∧ ((True) ∧ ((True) ∧ (((True) ∧ (decide ((r_Rooms.getD x.toNat ((0 : Int), (false, (0 : Int)))).1 < (0 : Int))) = false) ∧ ((True) ∧ ((True) ∧ ((True) ∧ ((True) ∧ (((True) ∧ (decide ((r_Rooms.getD x.toNat ((0 : Int), (false, (0 : Int)))).1 > (65535 : Int))) = true) ∧ ((True) ∧ ((True) ∧ ((True) ∧ (True)))))))))))) := ⟨trivial, ⟨trivial, ⟨trivial, ⟨⟨trivial, c5⟩, ⟨trivial, ⟨trivial, ⟨trivial, ⟨trivial, ⟨⟨trivial, c6⟩, ⟨trivial, ⟨trivial, ⟨trivial, trivial⟩⟩⟩⟩⟩⟩⟩⟩⟩⟩⟩⟩
          refine TS.reg [.none, .none, .none, .dec false, .none, .none, .none, .none, .dec true] ?_ ?_
          · apply prop_of ?_ hq
            kernel_rfl
          refine XS.then ?_
          refine TS.yes ?_ ?_
          · kernel_rfl
          refine TS.seq ?_
          have hq : (True) ∧ (True) := ⟨trivial, trivial⟩
          refine TS.reg [] ?_ ?_
          · apply prop_of ?_ hq
            kernel_rfl
          refine XS.then ?_
          refine TS.ret ?_
          refine XS.blockRet ?_
          refine XS.passR ?_
          refine XS.passR ?_
          refine XS.blockRet ?_
          refine XS.passR ?_
          obtain rfl : (4 : Int) = r := Option.some.inj h
          exact XS.fin [] ((True) ∧ (True)) (by kernel_rfl) ⟨trivial, trivial⟩
        · rcases bif_some h with ⟨c8, h⟩ | ⟨c9, h⟩
          · rcases bif_some h with ⟨c10, h⟩ | ⟨c11, h⟩
            · have hq : (True) ∧ ((True) ∧ ((True) ∧ (((True) ∧ (decide ((r_Rooms.getD x.toNat ((0 : Int), (false, (0 : Int)))).1 < (0 : Int))) = false) ∧ ((True) ∧ ((True) ∧ ((True) ∧ ((True) ∧ (((True) ∧ (decide ((r_Rooms.getD x.toNat ((0 : Int), (false, (0 : Int)))).1 > (65535 : Int))) = false) ∧ ((True) ∧ ((True) ∧ (((True) ∧ (r_Rooms.getD x.toNat ((0 : Int), (false, (0 : Int)))).2.1 = true) ∧ ((True) ∧ ((True) ∧ ((True) ∧ ((True) ∧ ((True) ∧ (((True) ∧ ((r_Rooms.getD x.toNat ((0 : Int), (false, (0 : Int)))).1 == (0 : Int)) = true) ∧ ((True) ∧ (True))))))))))))))))))) := ⟨trivial, ⟨trivial, ⟨trivial, ⟨⟨trivial, c5⟩, ⟨trivial, ⟨trivial, ⟨trivial, ⟨trivial, ⟨⟨trivial, c7⟩, ⟨trivial, ⟨trivial, ⟨⟨trivial, c8⟩, ⟨trivial, ⟨trivial, ⟨trivial, ⟨trivial, ⟨trivial, ⟨⟨trivial, c10⟩, ⟨trivial, trivial⟩⟩⟩⟩⟩⟩⟩⟩⟩⟩⟩⟩⟩⟩⟩⟩⟩⟩⟩
              refine TS.reg [.none, .none, .none, .dec false, .none, .none, .none, .none, .dec false, .none, .none, .dec true, .none, .none, .none, .none, .none, .dec true] ?_ ?_
              · apply prop_of ?_ hq
                kernel_rfl
              refine XS.then ?_
              refine TS.yes ?_ ?_
              · kernel_rfl
              refine TS.seq ?_
              have hq : (True) ∧ (True) := ⟨trivial, trivial⟩
              refine TS.reg [] ?_ ?_
              · apply prop_of ?_ hq
                kernel_rfl
              refine XS.then ?_
              refine TS.ret ?_
              refine XS.blockRet ?_
              refine XS.passR ?_
              refine XS.passR ?_
              refine XS.blockRet ?_
              refine XS.passR ?_
              obtain rfl : (4 : Int) = r := Option.some.inj h
              exact XS.fin [] ((True) ∧ (True)) (by kernel_rfl) ⟨trivial, trivial⟩
            · rcases bif_some h with ⟨c12, h⟩ | ⟨c13, h⟩
              · have hq : (True) ∧ ((True) ∧ ((True) ∧ (((True) ∧ (decide ((r_Rooms.getD x.toNat ((0 : Int), (false, (0 : Int)))).1 < (0 : Int))) = false) ∧ ((True) ∧ ((True) ∧ ((True) ∧ ((True) ∧ (((True) ∧ (decide ((r_Rooms.getD x.toNat ((0 : Int), (false, (0 : Int)))).1 > (65535 : Int))) = false) ∧ ((True) ∧ ((True) ∧ (((True) ∧ (r_Rooms.getD x.toNat ((0 : Int), (false, (0 : Int)))).2.1 = true) ∧ ((True) ∧ ((True) ∧ ((True) ∧ ((True) ∧ ((True) ∧ (((True) ∧ ((r_Rooms.getD x.toNat ((0 : Int), (false, (0 : Int)))).1 == (0 : Int)) = false) ∧ ((True) ∧ ((True) ∧ ((True) ∧ (((True) ∧ (!(r_Rooms.getD x.toNat ((0 : Int), (false, (0 : Int)))).2.1) = true) ∧ ((True) ∧ ((True) ∧ ((True) ∧ ((True) ∧ ((True) ∧ (True))))))))))))))))))))))))))) := ⟨trivial, ⟨trivial, ⟨trivial, ⟨⟨trivial, c5⟩, ⟨trivial, ⟨trivial, ⟨trivial, ⟨trivial, ⟨⟨trivial, c7⟩, ⟨trivial, ⟨trivial, ⟨⟨trivial, c8⟩, ⟨trivial, ⟨trivial, ⟨trivial, ⟨trivial, ⟨trivial, ⟨⟨trivial, c11⟩, ⟨trivial, ⟨trivial, ⟨trivial, ⟨⟨trivial, c12⟩, ⟨trivial, ⟨trivial, ⟨trivial, ⟨trivial, ⟨trivial, trivial⟩⟩⟩⟩⟩⟩⟩⟩⟩⟩⟩⟩⟩⟩⟩⟩⟩⟩⟩⟩⟩⟩⟩⟩⟩⟩⟩
                refine TS.reg [.none, .none, .none, .dec false, .none, .none, .none, .none, .dec false, .none, .none, .dec true, .none, .none, .none, .none, .none, .dec false, .none, .none, .none, .dec true] ?_ ?_
                · apply prop_of ?_ hq
                  kernel_rfl
                refine XS.then ?_
                rcases bif_some h with ⟨c14, h⟩ | ⟨c15, h⟩
                · refine TS.cond ((r_Rooms.getD x.toNat ((0 : Int), (false, (0 : Int)))).2.2 != (0 : Int)) ?_ (fun e => ?_) (fun e => by rw [c14] at e; cases e)
                  · kernel_rfl
                  refine TS.seq ?_
                  have hq : (True) ∧ (True) := ⟨trivial, trivial⟩
                  refine TS.reg [] ?_ ?_
                  · apply prop_of ?_ hq
                    kernel_rfl
                  refine XS.then ?_
                  refine TS.ret ?_
                  refine XS.blockRet ?_
                  refine XS.passR ?_
                  refine XS.passR ?_
                  refine XS.blockRet ?_
                  refine XS.passR ?_
                  obtain rfl : (4 : Int) = r := Option.some.inj h
                  exact XS.fin [] ((True) ∧ (True)) (by kernel_rfl) ⟨trivial, trivial⟩
                · refine TS.cond ((r_Rooms.getD x.toNat ((0 : Int), (false, (0 : Int)))).2.2 != (0 : Int)) ?_ (fun e => by rw [c15] at e; cases e) (fun e => ?_)
                  · kernel_rfl
                  refine TS.skip ?_
                  refine XS.blockEnd ?_
                  refine XS.then ?_
                  have hq : (True) ∧ ((True) ∧ (True)) := ⟨trivial, ⟨trivial, trivial⟩⟩
                  refine TS.reg [] ?_ ?_
                  · apply prop_of ?_ hq
                    kernel_rfl
                  refine XS.reAny [] (mkMask 38 [6, 7]) (IntKind.wrap .i64 (x + (1 : Int))) h ?_
                  kernel_rfl
              · have hq : (True) ∧ ((True) ∧ ((True) ∧ (((True) ∧ (decide ((r_Rooms.getD x.toNat ((0 : Int), (false, (0 : Int)))).1 < (0 : Int))) = false) ∧ ((True) ∧ ((True) ∧ ((True) ∧ ((True) ∧ (((True) ∧ (decide ((r_Rooms.getD x.toNat ((0 : Int), (false, (0 : Int)))).1 > (65535 : Int))) = false) ∧ ((True) ∧ ((True) ∧ (((True) ∧ (r_Rooms.getD x.toNat ((0 : Int), (false, (0 : Int)))).2.1 = true) ∧ ((True) ∧ ((True) ∧ ((True) ∧ ((True) ∧ ((True) ∧ (((True) ∧ ((r_Rooms.getD x.toNat ((0 : Int), (false, (0 : Int)))).1 == (0 : Int)) = false) ∧ ((True) ∧ ((True) ∧ ((True) ∧ (((True) ∧ (!(r_Rooms.getD x.toNat ((0 : Int), (false, (0 : Int)))).2.1) = false) ∧ ((True) ∧ ((True) ∧ (True)))))))))))))))))))))))) := ⟨trivial, ⟨trivial, ⟨trivial, ⟨⟨trivial, c5⟩, ⟨trivial, ⟨trivial, ⟨trivial, ⟨trivial, ⟨⟨trivial, c7⟩, ⟨trivial, ⟨trivial, ⟨⟨trivial, c8⟩, ⟨trivial, ⟨trivial, ⟨trivial, ⟨trivial, ⟨trivial, ⟨⟨trivial, c11⟩, ⟨trivial, ⟨trivial, ⟨trivial, ⟨⟨trivial, c13⟩, ⟨trivial, ⟨trivial, trivial⟩⟩⟩⟩⟩⟩⟩⟩⟩⟩⟩⟩⟩⟩⟩⟩⟩⟩⟩⟩⟩⟩⟩⟩
                refine TS.reg [.none, .none, .none, .dec false, .none, .none, .none, .none, .dec false, .none, .none, .dec true, .none, .none, .none, .none, .none, .dec false, .none, .none, .none, .dec false] ?_ ?_
                · apply prop_of ?_ hq
                  kernel_rfl
                refine XS.then ?_
                refine TS.no ?_ ?_
                · kernel_rfl
                refine TS.skip ?_
                refine XS.blockEnd ?_
                refine XS.then ?_
                have hq : (True) ∧ ((True) ∧ (True)) := ⟨trivial, ⟨trivial, trivial⟩⟩
                refine TS.reg [] ?_ ?_
                · apply prop_of ?_ hq
                  kernel_rfl
                refine XS.reAny [] (mkMask 38 [6, 7]) (IntKind.wrap .i64 (x + (1 : Int))) h ?_
                kernel_rfl
          · rcases bif_some h with ⟨c16, h⟩ | ⟨c17, h⟩
            · have hq : (True) ∧ ((True) ∧ ((True) ∧ (((True) ∧ (decide ((r_Rooms.getD x.toNat ((0 : Int), (false, (0 : Int)))).1 < (0 : Int))) = false) ∧ ((True) ∧ ((True) ∧ ((True) ∧ ((True) ∧ (((True) ∧ (decide ((r_Rooms.getD x.toNat ((0 : Int), (false, (0 : Int)))).1 > (65535 : Int))) = false) ∧ ((True) ∧ ((True) ∧ (((True) ∧ (r_Rooms.getD x.toNat ((0 : Int), (false, (0 : Int)))).2.1 = false) ∧ ((True) ∧ ((True) ∧ ((True) ∧ ((True) ∧ ((True) ∧ ((True) ∧ (((True) ∧ (!(r_Rooms.getD x.toNat ((0 : Int), (false, (0 : Int)))).2.1) = true) ∧ ((True) ∧ ((True) ∧ ((True) ∧ ((True) ∧ ((True) ∧ (True)))))))))))))))))))))))) := ⟨trivial, ⟨trivial, ⟨trivial, ⟨⟨trivial, c5⟩, ⟨trivial, ⟨trivial, ⟨trivial, ⟨trivial, ⟨⟨trivial, c7⟩, ⟨trivial, ⟨trivial, ⟨⟨trivial, c9⟩, ⟨trivial, ⟨trivial, ⟨trivial, ⟨trivial, ⟨trivial, ⟨trivial, ⟨⟨trivial, c16⟩, ⟨trivial, ⟨trivial, ⟨trivial, ⟨trivial, ⟨trivial, trivial⟩⟩⟩⟩⟩⟩⟩⟩⟩⟩⟩⟩⟩⟩⟩⟩⟩⟩⟩⟩⟩⟩⟩⟩
              refine TS.reg [.none, .none, .none, .dec false, .none, .none, .none, .none, .dec false, .none, .none, .dec false, .none, .none, .none, .none, .none, .none, .none, .none, .none, .dec true] ?_ ?_
              · apply prop_of ?_ hq
                kernel_rfl
              refine XS.then ?_
              rcases bif_some h with ⟨c18, h⟩ | ⟨c19, h⟩
              · refine TS.cond ((r_Rooms.getD x.toNat ((0 : Int), (false, (0 : Int)))).2.2 != (0 : Int)) ?_ (fun e => ?_) (fun e => by rw [c18] at e; cases e)
                · kernel_rfl
                refine TS.seq ?_
                have hq : (True) ∧ (True) := ⟨trivial, trivial⟩
                refine TS.reg [] ?_ ?_
                · apply prop_of ?_ hq
                  kernel_rfl
                refine XS.then ?_
                refine TS.ret ?_
                refine XS.blockRet ?_
                refine XS.passR ?_
                refine XS.passR ?_
                refine XS.blockRet ?_
                refine XS.passR ?_
                obtain rfl : (4 : Int) = r := Option.some.inj h
                exact XS.fin [] ((True) ∧ (True)) (by kernel_rfl) ⟨trivial, trivial⟩
              · refine TS.cond ((r_Rooms.getD x.toNat ((0 : Int), (false, (0 : Int)))).2.2 != (0 : Int)) ?_ (fun e => by rw [c19] at e; cases e) (fun e => ?_)
                · kernel_rfl
                refine TS.skip ?_
                refine XS.blockEnd ?_
                refine XS.then ?_
                have hq : (True) ∧ ((True) ∧ (True)) := ⟨trivial, ⟨trivial, trivial⟩⟩
                refine TS.reg [] ?_ ?_
                · apply prop_of ?_ hq
                  kernel_rfl
                refine XS.reAny [] (mkMask 38 [6, 7]) (IntKind.wrap .i64 (x + (1 : Int))) h ?_
                kernel_rfl
            · have hq : (True) ∧ ((True) ∧ ((True) ∧ (((True) ∧ (decide ((r_Rooms.getD x.toNat ((0 : Int), (false, (0 : Int)))).1 < (0 : Int))) = false) ∧ ((True) ∧ ((True) ∧ ((True) ∧ ((True) ∧ (((True) ∧ (decide ((r_Rooms.getD x.toNat ((0 : Int), (false, (0 : Int)))).1 > (65535 : Int))) = false) ∧ ((True) ∧ ((True) ∧ (((True) ∧ (r_Rooms.getD x.toNat ((0 : Int), (false, (0 : Int)))).2.1 = false) ∧ ((True) ∧ ((True) ∧ ((True) ∧ ((True) ∧ ((True) ∧ ((True) ∧ (((True) ∧ (!(r_Rooms.getD x.toNat ((0 : Int), (false, (0 : Int)))).2.1) = false) ∧ ((True) ∧ ((True) ∧ (True))))))))))))))))))))) := ⟨trivial, ⟨trivial, ⟨trivial, ⟨⟨trivial, c5⟩, ⟨trivial, ⟨trivial, ⟨trivial, ⟨trivial, ⟨⟨trivial, c7⟩, ⟨trivial, ⟨trivial, ⟨⟨trivial, c9⟩, ⟨trivial, ⟨trivial, ⟨trivial, ⟨trivial, ⟨trivial, ⟨trivial, ⟨⟨trivial, c17⟩, ⟨trivial, ⟨trivial, trivial⟩⟩⟩⟩⟩⟩⟩⟩⟩⟩⟩⟩⟩⟩⟩⟩⟩⟩⟩⟩⟩
              refine TS.reg [.none, .none, .none, .dec false, .none, .none, .none, .none, .dec false, .none, .none, .dec false, .none, .none, .none, .none, .none, .none, .none, .none, .none, .dec false] ?_ ?_
              · apply prop_of ?_ hq
                kernel_rfl
              refine XS.then ?_
              refine TS.no ?_ ?_
              · kernel_rfl
              refine TS.skip ?_
              refine XS.blockEnd ?_
              refine XS.then ?_
              have hq : (True) ∧ ((True) ∧ (True)) := ⟨trivial, ⟨trivial, trivial⟩⟩
              refine TS.reg [] ?_ ?_
              · apply prop_of ?_ hq
                kernel_rfl
              refine XS.reAny [] (mkMask 38 [6, 7]) (IntKind.wrap .i64 (x + (1 : Int))) h ?_
              kernel_rfl
    · refine TS.cond (decide (x < (16 : Int))) ?_ (fun e => by rw [c2] at e; cases e) (fun e => ?_)
      · kernel_rfl
      refine TS.exit ?_
      refine XS.passE ?_
      refine XS.passE ?_
      refine XS.out ?_
      refine XS.then ?_
      refine TS.seq ?_
      have hq : (True) ∧ (True) := ⟨trivial, trivial⟩
      refine TS.reg [] ?_ ?_
      · apply prop_of ?_ hq
        kernel_rfl
      refine XS.then ?_
      refine TS.ret ?_
      obtain rfl : (0 : Int) = r := Option.some.inj h
      exact XS.fin [] ((True) ∧ (True)) (by kernel_rfl) ⟨trivial, trivial⟩

/-! plugtree/register.Let -/
def F19_l2 (n : Nat) (r_Rooms : List (Int × Bool × Int)) (what : Int) (k19_2 : Int → Option ((List (Int × Bool × Int)) × Int × Int)) : Int → Option ((List (Int × Bool × Int)) × Int × Int)
  | x => (bif (decide (x < (16 : Int))) then (bif inb x 16 then (bif (!(r_Rooms.getD x.toNat ((0 : Int), (false, (0 : Int)))).2.1) then (bif (decide ((r_Rooms.getD x.toNat ((0 : Int), (false, (0 : Int)))).1 < (65535 : Int))) then (some ((r_Rooms.set x.toNat ((IntKind.wrap .i64 ((r_Rooms.getD x.toNat ((0 : Int), (false, (0 : Int)))).1 + (1 : Int))), (true, what))), (IntKind.wrap .i64 (x + (IntKind.wrap .i64 ((16 : Int) * ((r_Rooms.set x.toNat ((IntKind.wrap .i64 ((r_Rooms.getD x.toNat ((0 : Int), (false, (0 : Int)))).1 + (1 : Int))), (true, what))).getD x.toNat ((0 : Int), (false, (0 : Int)))).1)))), (0 : Int))) else (k19_2 (IntKind.wrap .i64 (x + (1 : Int))))) else (k19_2 (IntKind.wrap .i64 (x + (1 : Int))))) else none) else (some ((List.replicate 16 ((0 : Int), (false, (0 : Int)))), (0 : Int), (11 : Int))))
def F19 (n : Nat) (r_Rooms : List (Int × Bool × Int)) (what : Int) : Option ((List (Int × Bool × Int)) × Int × Int) := ((F21 n r_Rooms).bind fun y_4 => (bif (y_4 != (0 : Int)) then (some ((List.replicate 16 ((0 : Int), (false, (0 : Int)))), (0 : Int), y_4)) else (loopF (F19_l2 n r_Rooms what) n (0 : Int))))
theorem F19_ok (n : Nat) (r_Rooms : List (Int × Bool × Int)) (what : Int) (r : (List (Int × Bool × Int)) × Int × Int) (h : F19 n r_Rooms what = some r) : PureC Try.prog 19 [(.st (.arr 16 (.st (.pair (.int .i64) (.pair .bool (.int .i64)))) r_Rooms)), (.int .i64 what)] (.tup (.cons (.st (.arr 16 (.st (.pair (.int .i64) (.pair .bool (.int .i64)))) r.1)) (.cons (.int .i64 r.2.1) (.cons (.int .i64 r.2.2) .nil)))) [] := by
  refine PureC.mkS Try.func19 rfl rfl ?_
  intro w0 fz0 hfz
  replace h : ((F21 n r_Rooms).bind fun y_4 => (bif (y_4 != (0 : Int)) then (some ((List.replicate 16 ((0 : Int), (false, (0 : Int)))), (0 : Int), y_4)) else (loopF (F19_l2 n r_Rooms what) n (0 : Int)))) = some r := h
  refine TS.seq ?_
  have hq : (True) ∧ ((True) ∧ ((True) ∧ ((True) ∧ (True)))) := ⟨trivial, ⟨trivial, ⟨trivial, ⟨trivial, trivial⟩⟩⟩⟩
  refine TS.reg [] ?_ ?_
  · apply prop_of ?_ hq
    kernel_rfl
  refine XS.then ?_
  refine TS.seq ?_
  refine TS.seq ?_
  obtain ⟨y_4, hx1, h⟩ := bind_some' h
  have hq : (True) ∧ ((PureC Try.prog 21 [(.st (.arr 16 (.st (.pair (.int .i64) (.pair .bool (.int .i64)))) r_Rooms))] (.int .i64 y_4) []) ∧ ((True) ∧ (True))) := ⟨trivial, ⟨F21_ok n r_Rooms y_4 hx1, ⟨trivial, trivial⟩⟩⟩
  refine TS.reg [.none, (.call (.int .i64 y_4) [])] ?_ ?_
  · apply prop_of ?_ hq
    kernel_rfl
  refine XS.then ?_
  refine TS.seq ?_
  have hq : (True) ∧ ((True) ∧ (True)) := ⟨trivial, ⟨trivial, trivial⟩⟩
  refine TS.reg [] ?_ ?_
  · apply prop_of ?_ hq
    kernel_rfl
  refine XS.then ?_
  rcases bif_some h with ⟨c2, h⟩ | ⟨c3, h⟩
  · refine TS.cond (y_4 != (0 : Int)) ?_ (fun e => ?_) (fun e => by rw [c2] at e; cases e)
    · kernel_rfl
    refine TS.seq ?_
    have hq : (True) ∧ ((True) ∧ ((True) ∧ ((True) ∧ ((True) ∧ (True))))) := ⟨trivial, ⟨trivial, ⟨trivial, ⟨trivial, ⟨trivial, trivial⟩⟩⟩⟩⟩
    refine TS.reg [] ?_ ?_
    · apply prop_of ?_ hq
      kernel_rfl
    refine XS.then ?_
    refine TS.ret ?_
    refine XS.passR ?_
    obtain rfl : ((List.replicate 16 ((0 : Int), (false, (0 : Int)))), (0 : Int), y_4) = r := Option.some.inj h
    exact XS.fin [] ((True) ∧ ((True) ∧ ((True) ∧ (True)))) (by kernel_rfl) ⟨trivial, ⟨trivial, ⟨trivial, trivial⟩⟩⟩
  · refine TS.cond (y_4 != (0 : Int)) ?_ (fun e => by rw [c3] at e; cases e) (fun e => ?_)
    · kernel_rfl
    refine TS.skip ?_
    refine XS.then ?_
    refine TS.seq ?_
    refine TS.seq ?_
    have hq : (True) ∧ (True) := ⟨trivial, trivial⟩
    refine TS.reg [] ?_ ?_
    · apply prop_of ?_ hq
      kernel_rfl
    refine XS.then ?_
    refine TS.block ?_
    refine TS.reLoop [0, 1] (mkMask 53 [1, 2, 4, 16]) (D := Int) (fun d => match d with | x => (mkTs 53 [(1, (.int .i64 what)), (2, (.ptr 0 [])), (4, (.ptr 1 [])), (16, (.int .i64 x))], [(.box 39 (.st (.arr 16 (.st (.pair (.int .i64) (.pair .bool (.int .i64)))) r_Rooms))), (.box 39 (.st (.arr 16 (.st (.pair (.int .i64) (.pair .bool (.int .i64)))) (List.replicate 16 ((0 : Int), (false, (0 : Int)))))))])) (fun n' d => loopF (F19_l2 n r_Rooms what) n' d = some r) n (0 : Int) h ?_ (fun d => loopF_zero _ d r) ?_
    · kernel_rfl
    · rintro n2 x h
      replace h : (bif (decide (x < (16 : Int))) then (bif inb x 16 then (bif (!(r_Rooms.getD x.toNat ((0 : Int), (false, (0 : Int)))).2.1) then (bif (decide ((r_Rooms.getD x.toNat ((0 : Int), (false, (0 : Int)))).1 < (65535 : Int))) then (some ((r_Rooms.set x.toNat ((IntKind.wrap .i64 ((r_Rooms.getD x.toNat ((0 : Int), (false, (0 : Int)))).1 + (1 : Int))), (true, what))), (IntKind.wrap .i64 (x + (IntKind.wrap .i64 ((16 : Int) * ((r_Rooms.set x.toNat ((IntKind.wrap .i64 ((r_Rooms.getD x.toNat ((0 : Int), (false, (0 : Int)))).1 + (1 : Int))), (true, what))).getD x.toNat ((0 : Int), (false, (0 : Int)))).1)))), (0 : Int))) else ((loopF (F19_l2 n r_Rooms what) n2) (IntKind.wrap .i64 (x + (1 : Int))))) else ((loopF (F19_l2 n r_Rooms what) n2) (IntKind.wrap .i64 (x + (1 : Int))))) else none) else (some ((List.replicate 16 ((0 : Int), (false, (0 : Int)))), (0 : Int), (11 : Int)))) = some r := h
      refine TS.seq ?_
      have hq : (True) ∧ (True) := ⟨trivial, trivial⟩
      refine TS.reg [] ?_ ?_
      · apply prop_of ?_ hq
        kernel_rfl
      refine XS.then ?_
      refine TS.seq ?_
      rcases bif_some h with ⟨c4, h⟩ | ⟨c5, h⟩
      · refine TS.cond (decide (x < (16 : Int))) ?_ (fun e => ?_) (fun e => by rw [c4] at e; cases e)
        · kernel_rfl
        refine TS.skip ?_
        refine XS.then ?_
        refine TS.seq ?_
        refine TS.block ?_
        refine TS.seq ?_
        have hq : (True) ∧ ((True) ∧ (True)) := ⟨trivial, ⟨trivial, trivial⟩⟩
        refine TS.reg [] ?_ ?_
        · apply prop_of ?_ hq
          kernel_rfl
        refine XS.then ?_
        refine TS.seq ?_
        obtain ⟨t6, h⟩ := test_some h
        have hq : (True) ∧ ((True) ∧ ((inR x 16) ∧ ((True) ∧ (True)))) := ⟨trivial, ⟨trivial, ⟨inb_ok t6, ⟨trivial, trivial⟩⟩⟩⟩
        refine TS.reg [] ?_ ?_
        · apply prop_of ?_ hq
          kernel_rfl
        refine XS.then ?_
        refine TS.seq ?_
        rcases bif_some h with ⟨c7, h⟩ | ⟨c8, h⟩
        · have hq : (True) ∧ ((True) ∧ ((True) ∧ ((x.toNat < 16 ∧ (True)) ∧ ((True) ∧ (((True) ∧ (!(r_Rooms.getD x.toNat ((0 : Int), (false, (0 : Int)))).2.1) = true) ∧ ((True) ∧ ((True) ∧ ((True) ∧ ((x.toNat < 16 ∧ (True)) ∧ ((True) ∧ ((True) ∧ (True)))))))))))) := ⟨trivial, ⟨trivial, ⟨trivial, ⟨⟨inR_lt (inb_ok t6), trivial⟩, ⟨trivial, ⟨⟨trivial, c7⟩, ⟨trivial, ⟨trivial, ⟨trivial, ⟨⟨inR_lt (inb_ok t6), trivial⟩, ⟨trivial, ⟨trivial, trivial⟩⟩⟩⟩⟩⟩⟩⟩⟩⟩⟩⟩
          refine TS.reg [.none, .none, .none, .none, .none, .dec true] ?_ ?_
          · apply prop_of ?_ hq
            kernel_rfl
          refine XS.then ?_
          rcases bif_some h with ⟨c9, h⟩ | ⟨c10, h⟩
          · refine TS.cond (decide ((r_Rooms.getD x.toNat ((0 : Int), (false, (0 : Int)))).1 < (65535 : Int))) ?_ (fun e => ?_) (fun e => by rw [c9] at e; cases e)
            · kernel_rfl
            refine TS.seq ?_
            have hq : (True) ∧ ((True) ∧ ((True) ∧ ((True) ∧ ((x.toNat < 16 ∧ (True)) ∧ ((True) ∧ ((True) ∧ (((True) ∧ ((True) ∧ ((True) ∧ (True)))) ∧ ((True) ∧ ((x.toNat < 16 ∧ (True)) ∧ (True)))))))))) := ⟨trivial, ⟨trivial, ⟨trivial, ⟨trivial, ⟨⟨inR_lt (inb_ok t6), trivial⟩, ⟨trivial, ⟨trivial, ⟨⟨trivial, ⟨trivial, ⟨trivial, trivial⟩⟩⟩, ⟨trivial, ⟨⟨inR_lt (inb_ok t6), trivial⟩, trivial⟩⟩⟩⟩⟩⟩⟩⟩⟩⟩
            refine TS.reg [] ?_ ?_
            · apply prop_of ?_ hq
              kernel_rfl
            refine XS.then ?_
            refine TS.seq ?_
            have hq : ((True) ∧ ((True) ∧ ((True) ∧ ((True) ∧ ((True) ∧ ((x.toNat < 16 ∧ (True)) ∧ ((True) ∧ ((True) ∧ ((True) ∧ (True)))))))))) ∧ ((True) ∧ ((True) ∧ (True))) := ⟨⟨trivial, ⟨trivial, ⟨trivial, ⟨trivial, ⟨trivial, ⟨⟨inR_lt (inb_ok t6), trivial⟩, ⟨trivial, ⟨trivial, ⟨trivial, trivial⟩⟩⟩⟩⟩⟩⟩⟩⟩, ⟨trivial, ⟨trivial, trivial⟩⟩⟩
            refine TS.draw 9 [1] [] (by kernel_rfl) ?_ ?_
            · apply prop_of ?_ hq
              kernel_rfl
            refine XS.then ?_
            refine TS.ret ?_
            refine XS.blockRet ?_
            refine XS.passR ?_
            refine XS.passR ?_
            refine XS.blockRet ?_
            refine XS.passR ?_
            obtain rfl : ((r_Rooms.set x.toNat ((IntKind.wrap .i64 ((r_Rooms.getD x.toNat ((0 : Int), (false, (0 : Int)))).1 + (1 : Int))), (true, what))), (IntKind.wrap .i64 (x + (IntKind.wrap .i64 ((16 : Int) * ((r_Rooms.set x.toNat ((IntKind.wrap .i64 ((r_Rooms.getD x.toNat ((0 : Int), (false, (0 : Int)))).1 + (1 : Int))), (true, what))).getD x.toNat ((0 : Int), (false, (0 : Int)))).1)))), (0 : Int)) = r := Option.some.inj h
            exact XS.fin [] ((True) ∧ ((True) ∧ ((True) ∧ (True)))) (by kernel_rfl) ⟨trivial, ⟨trivial, ⟨trivial, trivial⟩⟩⟩
          · refine TS.cond (decide ((r_Rooms.getD x.toNat ((0 : Int), (false, (0 : Int)))).1 < (65535 : Int))) ?_ (fun e => by rw [c10] at e; cases e) (fun e => ?_)
            · kernel_rfl
            refine TS.skip ?_
            refine XS.blockEnd ?_
            refine XS.then ?_
            have hq : (True) ∧ ((True) ∧ (True)) := ⟨trivial, ⟨trivial, trivial⟩⟩
            refine TS.reg [] ?_ ?_
            · apply prop_of ?_ hq
              kernel_rfl
            refine XS.reAny [0, 1] (mkMask 53 [1, 2, 4, 16]) (IntKind.wrap .i64 (x + (1 : Int))) h ?_
            kernel_rfl
        · have hq : (True) ∧ ((True) ∧ ((True) ∧ ((x.toNat < 16 ∧ (True)) ∧ ((True) ∧ (((True) ∧ (!(r_Rooms.getD x.toNat ((0 : Int), (false, (0 : Int)))).2.1) = false) ∧ ((True) ∧ (True))))))) := ⟨trivial, ⟨trivial, ⟨trivial, ⟨⟨inR_lt (inb_ok t6), trivial⟩, ⟨trivial, ⟨⟨trivial, c8⟩, ⟨trivial, trivial⟩⟩⟩⟩⟩⟩⟩
          refine TS.reg [.none, .none, .none, .none, .none, .dec false] ?_ ?_
          · apply prop_of ?_ hq
            kernel_rfl
          refine XS.then ?_
          refine TS.no ?_ ?_
          · kernel_rfl
          refine TS.skip ?_
          refine XS.blockEnd ?_
          refine XS.then ?_
          have hq : (True) ∧ ((True) ∧ (True)) := ⟨trivial, ⟨trivial, trivial⟩⟩
          refine TS.reg [] ?_ ?_
          · apply prop_of ?_ hq
            kernel_rfl
          refine XS.reAny [0, 1] (mkMask 53 [1, 2, 4, 16]) (IntKind.wrap .i64 (x + (1 : Int))) h ?_
          kernel_rfl
      · refine TS.cond (decide (x < (16 : Int))) ?_ (fun e => by rw [c5] at e; cases e) (fun e => ?_)
        · kernel_rfl
        refine TS.exit ?_
        refine XS.passE ?_
        refine XS.passE ?_
        refine XS.out ?_
        refine XS.then ?_
        refine TS.seq ?_
        have hq : (True) ∧ ((True) ∧ ((True) ∧ ((True) ∧ (True)))) := ⟨trivial, ⟨trivial, ⟨trivial, ⟨trivial, trivial⟩⟩⟩⟩
        refine TS.reg [] ?_ ?_
        · apply prop_of ?_ hq
          kernel_rfl
        refine XS.then ?_
        refine TS.ret ?_
        obtain rfl : ((List.replicate 16 ((0 : Int), (false, (0 : Int)))), (0 : Int), (11 : Int)) = r := Option.some.inj h
        exact XS.fin [] ((True) ∧ ((True) ∧ ((True) ∧ (True)))) (by kernel_rfl) ⟨trivial, ⟨trivial, ⟨trivial, trivial⟩⟩⟩

/-! plugtree/plugref.Between -/
def F66 (n : Nat) (vn : Int) (low : Int) (high : Int) : Option Bool := (bif (decide (low ≤ vn)) then (some (decide (vn ≤ high))) else (some false))
theorem F66_ok (n : Nat) (vn : Int) (low : Int) (high : Int) (r : Bool) (h : F66 n vn low high = some r) : PureC Try.prog 66 [(.int .i64 vn), (.int .i64 low), (.int .i64 high)] (.bool r) [] := by
  refine PureC.mkS Try.func66 rfl rfl ?_
  intro w0 fz0 hfz
  replace h : (bif (decide (low ≤ vn)) then (some (decide (vn ≤ high))) else (some false)) = some r := h
  refine TS.seq ?_
  have hq : (True) ∧ (True) := ⟨trivial, trivial⟩
  refine TS.reg [] ?_ ?_
  · apply prop_of ?_ hq
    kernel_rfl
  refine XS.then ?_
  refine TS.seq ?_
  rcases bif_some h with ⟨c1, h⟩ | ⟨c2, h⟩
  · have hq : (True) ∧ ((True) ∧ ((True) ∧ (((True) ∧ (decide (low ≤ vn)) = true) ∧ ((True) ∧ ((True) ∧ ((True) ∧ ((True) ∧ ((True) ∧ (True))))))))) := ⟨trivial, ⟨trivial, ⟨trivial, ⟨⟨trivial, c1⟩, ⟨trivial, ⟨trivial, ⟨trivial, ⟨trivial, ⟨trivial, trivial⟩⟩⟩⟩⟩⟩⟩⟩⟩
    refine TS.reg [.none, .none, .none, .dec true] ?_ ?_
    · apply prop_of ?_ hq
      kernel_rfl
    refine XS.then ?_
    refine TS.ret ?_
    obtain rfl : (decide (vn ≤ high)) = r := Option.some.inj h
    exact XS.fin [] ((True) ∧ (True)) (by kernel_rfl) ⟨trivial, trivial⟩
  · have hq : (True) ∧ ((True) ∧ ((True) ∧ (((True) ∧ (decide (low ≤ vn)) = false) ∧ ((True) ∧ ((True) ∧ (True)))))) := ⟨trivial, ⟨trivial, ⟨trivial, ⟨⟨trivial, c2⟩, ⟨trivial, ⟨trivial, trivial⟩⟩⟩⟩⟩⟩
    refine TS.reg [.none, .none, .none, .dec false] ?_ ?_
    · apply prop_of ?_ hq
      kernel_rfl
    refine XS.then ?_
    refine TS.ret ?_
    obtain rfl : false = r := Option.some.inj h
    exact XS.fin [] ((True) ∧ (True)) (by kernel_rfl) ⟨trivial, trivial⟩

/-! plugtree/plugref.RegisterRight -/
def F22_l2 (n : Nat) (r_Rooms : List (Int × Bool × Int)) (k22_2 : Int → Option Int) : Int → Option Int
  | x => (bif (decide (x < (16 : Int))) then (bif inb x 16 then ((F66 n ((r_Rooms.getD x.toNat ((0 : Int), (false, (0 : Int)))).1) (0 : Int) (65535 : Int)).bind fun y_2 => (bif (!y_2) then (some (4 : Int)) else (bif (Sh.beq (.st (.pair (.int .i64) (.pair .bool (.int .i64)))) ((r_Rooms.getD x.toNat ((0 : Int), (false, (0 : Int)))).1, ((r_Rooms.getD x.toNat ((0 : Int), (false, (0 : Int)))).2.1, (r_Rooms.getD x.toNat ((0 : Int), (false, (0 : Int)))).2.2)) ((0 : Int), (true, (r_Rooms.getD x.toNat ((0 : Int), (false, (0 : Int)))).2.2))) then (some (4 : Int)) else (bif (!(Sh.beq (.st (.pair (.int .i64) (.pair .bool (.int .i64)))) ((r_Rooms.getD x.toNat ((0 : Int), (false, (0 : Int)))).1, ((r_Rooms.getD x.toNat ((0 : Int), (false, (0 : Int)))).2.1, (r_Rooms.getD x.toNat ((0 : Int), (false, (0 : Int)))).2.2)) ((r_Rooms.getD x.toNat ((0 : Int), (false, (0 : Int)))).1, (false, (0 : Int))))) then (bif (!(r_Rooms.getD x.toNat ((0 : Int), (false, (0 : Int)))).2.1) then (some (4 : Int)) else (k22_2 (IntKind.wrap .i64 (x + (1 : Int))))) else (k22_2 (IntKind.wrap .i64 (x + (1 : Int)))))))) else none) else (some (0 : Int)))
def F22 (n : Nat) (r_Rooms : List (Int × Bool × Int)) : Option Int := (loopF (F22_l2 n r_Rooms) n (0 : Int))
theorem F22_ok (n : Nat) (r_Rooms : List (Int × Bool × Int)) (r : Int) (h : F22 n r_Rooms = some r) : PureC Try.prog 22 [(.st (.arr 16 (.st (.pair (.int .i64) (.pair .bool (.int .i64)))) r_Rooms))] (.int .i64 r) [] := by
  refine PureC.mkS Try.func22 rfl rfl ?_
  intro w0 fz0 hfz
  replace h : (loopF (F22_l2 n r_Rooms) n (0 : Int)) = some r := h
  refine TS.seq ?_
  have hq : (True) ∧ ((True) ∧ (True)) := ⟨trivial, ⟨trivial, trivial⟩⟩
  refine TS.reg [] ?_ ?_
  · apply prop_of ?_ hq
    kernel_rfl
  refine XS.then ?_
  refine TS.seq ?_
  refine TS.seq ?_
  have hq : (True) ∧ ((True) ∧ ((True) ∧ (True))) := ⟨trivial, ⟨trivial, ⟨trivial, trivial⟩⟩⟩
  refine TS.reg [] ?_ ?_
  · apply prop_of ?_ hq
    kernel_rfl
  refine XS.then ?_
  refine TS.block ?_
  refine TS.reLoop [] (mkMask 34 [6, 7]) (D := Int) (fun d => match d with | x => (mkTs 34 [(6, (.arr 16 (.st (.pair (.int .i64) (.pair .bool (.int .i64)))) r_Rooms)), (7, (.int .i64 x))], [])) (fun n' d => loopF (F22_l2 n r_Rooms) n' d = some r) n (0 : Int) h ?_ (fun d => loopF_zero _ d r) ?_
  · kernel_rfl
  · rintro n2 x h
    replace h : (bif (decide (x < (16 : Int))) then (bif inb x 16 then ((F66 n ((r_Rooms.getD x.toNat ((0 : Int), (false, (0 : Int)))).1) (0 : Int) (65535 : Int)).bind fun y_2 => (bif (!y_2) then (some (4 : Int)) else (bif (Sh.beq (.st (.pair (.int .i64) (.pair .bool (.int .i64)))) ((r_Rooms.getD x.toNat ((0 : Int), (false, (0 : Int)))).1, ((r_Rooms.getD x.toNat ((0 : Int), (false, (0 : Int)))).2.1, (r_Rooms.getD x.toNat ((0 : Int), (false, (0 : Int)))).2.2)) ((0 : Int), (true, (r_Rooms.getD x.toNat ((0 : Int), (false, (0 : Int)))).2.2))) then (some (4 : Int)) else (bif (!(Sh.beq (.st (.pair (.int .i64) (.pair .bool (.int .i64)))) ((r_Rooms.getD x.toNat ((0 : Int), (false, (0 : Int)))).1, ((r_Rooms.getD x.toNat ((0 : Int), (false, (0 : Int)))).2.1, (r_Rooms.getD x.toNat ((0 : Int), (false, (0 : Int)))).2.2)) ((r_Rooms.getD x.toNat ((0 : Int), (false, (0 : Int)))).1, (false, (0 : Int))))) then (bif (!(r_Rooms.getD x.toNat ((0 : Int), (false, (0 : Int)))).2.1) then (some (4 : Int)) else ((loopF (F22_l2 n r_Rooms) n2) (IntKind.wrap .i64 (x + (1 : Int))))) else ((loopF (F22_l2 n r_Rooms) n2) (IntKind.wrap .i64 (x + (1 : Int)))))))) else none) else (some (0 : Int))) = some r := h
    refine TS.seq ?_
    have hq : (True) ∧ (True) := ⟨trivial, trivial⟩
    refine TS.reg [] ?_ ?_
    · apply prop_of ?_ hq
      kernel_rfl
    refine XS.then ?_
    refine TS.seq ?_
    rcases bif_some h with ⟨c1, h⟩ | ⟨c2, h⟩
    · refine TS.cond (decide (x < (16 : Int))) ?_ (fun e => ?_) (fun e => by rw [c1] at e; cases e)
      · kernel_rfl
      refine TS.skip ?_
      refine XS.then ?_
      refine TS.seq ?_
      refine TS.block ?_
      refine TS.seq ?_
      obtain ⟨t3, h⟩ := test_some h
      have hq : (inR x 16) ∧ ((True) ∧ ((True) ∧ (True))) := ⟨inb_ok t3, ⟨trivial, ⟨trivial, trivial⟩⟩⟩
      refine TS.reg [] ?_ ?_
      · apply prop_of ?_ hq
        kernel_rfl
      refine XS.then ?_
      refine TS.seq ?_
      obtain ⟨y_2, hx4, h⟩ := bind_some' h
      rcases bif_some h with ⟨c5, h⟩ | ⟨c6, h⟩
      · have hq : (True) ∧ ((True) ∧ ((PureC Try.prog 66 [(.int .i64 (r_Rooms.getD x.toNat ((0 : Int), (false, (0 : Int)))).1), (.int .i64 (0 : Int)), (.int .i64 (65535 : Int))] (.bool y_2) []) ∧ ((True) ∧ (((True) ∧ (!y_2) = true) ∧ ((True) ∧ ((True) ∧ ((True) ∧ (True)))))))) := ⟨trivial, ⟨trivial, ⟨F66_ok n ((r_Rooms.getD x.toNat ((0 : Int), (false, (0 : Int)))).1) (0 : Int) (65535 : Int) y_2 hx4, ⟨trivial, ⟨⟨trivial, c5⟩, ⟨trivial, ⟨trivial, ⟨trivial, trivial⟩⟩⟩⟩⟩⟩⟩⟩
        refine TS.reg [.none, .none, (.call (.bool y_2) []), .none, .dec true] ?_ ?_
        · apply prop_of ?_ hq
          kernel_rfl
        refine XS.then ?_
        refine TS.yes ?_ ?_
        · kernel_rfl
        refine TS.seq ?_
        have hq : (True) ∧ (True) := ⟨trivial, trivial⟩
        refine TS.reg [] ?_ ?_
        · apply prop_of ?_ hq
          kernel_rfl
        refine XS.then ?_
        refine TS.ret ?_
        refine XS.blockRet ?_
        refine XS.passR ?_
        refine XS.passR ?_
        refine XS.blockRet ?_
        refine XS.passR ?_
        obtain rfl : (4 : Int) = r := Option.some.inj h
        exact XS.fin [] ((True) ∧ (True)) (by kernel_rfl) ⟨trivial, trivial⟩
      · rcases bif_some h with ⟨c7, h⟩ | ⟨c8, h⟩
        · have hq : (True) ∧ ((True) ∧ ((PureC Try.prog 66 [(.int .i64 (r_Rooms.getD x.toNat ((0 : Int), (false, (0 : Int)))).1), (.int .i64 (0 : Int)), (.int .i64 (65535 : Int))] (.bool y_2) []) ∧ ((True) ∧ (((True) ∧ (!y_2) = false) ∧ ((True) ∧ ((True) ∧ ((True) ∧ (((True) ∧ ((True) ∧ (True))) ∧ ((True) ∧ ((True) ∧ (((True) ∧ (Sh.beq (.st (.pair (.int .i64) (.pair .bool (.int .i64)))) ((r_Rooms.getD x.toNat ((0 : Int), (false, (0 : Int)))).1, ((r_Rooms.getD x.toNat ((0 : Int), (false, (0 : Int)))).2.1, (r_Rooms.getD x.toNat ((0 : Int), (false, (0 : Int)))).2.2)) ((0 : Int), (true, (r_Rooms.getD x.toNat ((0 : Int), (false, (0 : Int)))).2.2))) = true) ∧ ((True) ∧ (True))))))))))))) := ⟨trivial, ⟨trivial, ⟨F66_ok n ((r_Rooms.getD x.toNat ((0 : Int), (false, (0 : Int)))).1) (0 : Int) (65535 : Int) y_2 hx4, ⟨trivial, ⟨⟨trivial, c6⟩, ⟨trivial, ⟨trivial, ⟨trivial, ⟨⟨trivial, ⟨trivial, trivial⟩⟩, ⟨trivial, ⟨trivial, ⟨⟨trivial, c7⟩, ⟨trivial, trivial⟩⟩⟩⟩⟩⟩⟩⟩⟩⟩⟩⟩⟩
          refine TS.reg [.none, .none, (.call (.bool y_2) []), .none, .dec false, .none, .none, .none, .none, .none, .none, .dec true] ?_ ?_
          · apply prop_of ?_ hq
            kernel_rfl
          refine XS.then ?_
          refine TS.yes ?_ ?_
          · kernel_rfl
          refine TS.seq ?_
          have hq : (True) ∧ (True) := ⟨trivial, trivial⟩
          refine TS.reg [] ?_ ?_
          · apply prop_of ?_ hq
            kernel_rfl
          refine XS.then ?_
          refine TS.ret ?_
          refine XS.blockRet ?_
          refine XS.passR ?_
          refine XS.passR ?_
          refine XS.blockRet ?_
          refine XS.passR ?_
          obtain rfl : (4 : Int) = r := Option.some.inj h
          exact XS.fin [] ((True) ∧ (True)) (by kernel_rfl) ⟨trivial, trivial⟩
        · rcases bif_some h with ⟨c9, h⟩ | ⟨c10, h⟩
          · have hq : (True) ∧ ((True) ∧ ((PureC Try.prog 66 [(.int .i64 (r_Rooms.getD x.toNat ((0 : Int), (false, (0 : Int)))).1), (.int .i64 (0 : Int)), (.int .i64 (65535 : Int))] (.bool y_2) []) ∧ ((True) ∧ (((True) ∧ (!y_2) = false) ∧ ((True) ∧ ((True) ∧ ((True) ∧ (((True) ∧ ((True) ∧ (True))) ∧ ((True) ∧ ((True) ∧ (((True) ∧ (Sh.beq (.st (.pair (.int .i64) (.pair .bool (.int .i64)))) ((r_Rooms.getD x.toNat ((0 : Int), (false, (0 : Int)))).1, ((r_Rooms.getD x.toNat ((0 : Int), (false, (0 : Int)))).2.1, (r_Rooms.getD x.toNat ((0 : Int), (false, (0 : Int)))).2.2)) ((0 : Int), (true, (r_Rooms.getD x.toNat ((0 : Int), (false, (0 : Int)))).2.2))) = false) ∧ ((True) ∧ ((True) ∧ ((True) ∧ (((True) ∧ (True)) ∧ ((True) ∧ (((True) ∧ (!(Sh.beq (.st (.pair (.int .i64) (.pair .bool (.int .i64)))) ((r_Rooms.getD x.toNat ((0 : Int), (false, (0 : Int)))).1, ((r_Rooms.getD x.toNat ((0 : Int), (false, (0 : Int)))).2.1, (r_Rooms.getD x.toNat ((0 : Int), (false, (0 : Int)))).2.2)) ((r_Rooms.getD x.toNat ((0 : Int), (false, (0 : Int)))).1, (false, (0 : Int))))) = true) ∧ ((True) ∧ ((True) ∧ ((True) ∧ ((True) ∧ ((True) ∧ (True))))))))))))))))))))))) := ⟨trivial, ⟨trivial, ⟨F66_ok n ((r_Rooms.getD x.toNat ((0 : Int), (false, (0 : Int)))).1) (0 : Int) (65535 : Int) y_2 hx4, ⟨trivial, ⟨⟨trivial, c6⟩, ⟨trivial, ⟨trivial, ⟨trivial, ⟨⟨trivial, ⟨trivial, trivial⟩⟩, ⟨trivial, ⟨trivial, ⟨⟨trivial, c8⟩, ⟨trivial, ⟨trivial, ⟨trivial, ⟨⟨trivial, trivial⟩, ⟨trivial, ⟨⟨trivial, c9⟩, ⟨trivial, ⟨trivial, ⟨trivial, ⟨trivial, ⟨trivial, trivial⟩⟩⟩⟩⟩⟩⟩⟩⟩⟩⟩⟩⟩⟩⟩⟩⟩⟩⟩⟩⟩⟩⟩
            refine TS.reg [.none, .none, (.call (.bool y_2) []), .none, .dec false, .none, .none, .none, .none, .none, .none, .dec false, .none, .none, .none, .none, .none, .dec true] ?_ ?_
            · apply prop_of ?_ hq
              kernel_rfl
            refine XS.then ?_
            rcases bif_some h with ⟨c11, h⟩ | ⟨c12, h⟩
            · refine TS.cond (!(r_Rooms.getD x.toNat ((0 : Int), (false, (0 : Int)))).2.1) ?_ (fun e => ?_) (fun e => by rw [c11] at e; cases e)
              · kernel_rfl
              refine TS.seq ?_
              have hq : (True) ∧ (True) := ⟨trivial, trivial⟩
              refine TS.reg [] ?_ ?_
              · apply prop_of ?_ hq
                kernel_rfl
              refine XS.then ?_
              refine TS.ret ?_
              refine XS.blockRet ?_
              refine XS.passR ?_
              refine XS.passR ?_
              refine XS.blockRet ?_
              refine XS.passR ?_
              obtain rfl : (4 : Int) = r := Option.some.inj h
              exact XS.fin [] ((True) ∧ (True)) (by kernel_rfl) ⟨trivial, trivial⟩
            · refine TS.cond (!(r_Rooms.getD x.toNat ((0 : Int), (false, (0 : Int)))).2.1) ?_ (fun e => by rw [c12] at e; cases e) (fun e => ?_)
              · kernel_rfl
              refine TS.skip ?_
              refine XS.blockEnd ?_
              refine XS.then ?_
              have hq : (True) ∧ ((True) ∧ (True)) := ⟨trivial, ⟨trivial, trivial⟩⟩
              refine TS.reg [] ?_ ?_
              · apply prop_of ?_ hq
                kernel_rfl
              refine XS.reAny [] (mkMask 34 [6, 7]) (IntKind.wrap .i64 (x + (1 : Int))) h ?_
              kernel_rfl
          · have hq : (True) ∧ ((True) ∧ ((PureC Try.prog 66 [(.int .i64 (r_Rooms.getD x.toNat ((0 : Int), (false, (0 : Int)))).1), (.int .i64 (0 : Int)), (.int .i64 (65535 : Int))] (.bool y_2) []) ∧ ((True) ∧ (((True) ∧ (!y_2) = false) ∧ ((True) ∧ ((True) ∧ ((True) ∧ (((True) ∧ ((True) ∧ (True))) ∧ ((True) ∧ ((True) ∧ (((True) ∧ (Sh.beq (.st (.pair (.int .i64) (.pair .bool (.int .i64)))) ((r_Rooms.getD x.toNat ((0 : Int), (false, (0 : Int)))).1, ((r_Rooms.getD x.toNat ((0 : Int), (false, (0 : Int)))).2.1, (r_Rooms.getD x.toNat ((0 : Int), (false, (0 : Int)))).2.2)) ((0 : Int), (true, (r_Rooms.getD x.toNat ((0 : Int), (false, (0 : Int)))).2.2))) = false) ∧ ((True) ∧ ((True) ∧ ((True) ∧ (((True) ∧ (True)) ∧ ((True) ∧ (((True) ∧ (!(Sh.beq (.st (.pair (.int .i64) (.pair .bool (.int .i64)))) ((r_Rooms.getD x.toNat ((0 : Int), (false, (0 : Int)))).1, ((r_Rooms.getD x.toNat ((0 : Int), (false, (0 : Int)))).2.1, (r_Rooms.getD x.toNat ((0 : Int), (false, (0 : Int)))).2.2)) ((r_Rooms.getD x.toNat ((0 : Int), (false, (0 : Int)))).1, (false, (0 : Int))))) = false) ∧ ((True) ∧ ((True) ∧ (True)))))))))))))))))))) := ⟨trivial, ⟨trivial, ⟨F66_ok n ((r_Rooms.getD x.toNat ((0 : Int), (false, (0 : Int)))).1) (0 : Int) (65535 : Int) y_2 hx4, ⟨trivial, ⟨⟨trivial, c6⟩, ⟨trivial, ⟨trivial, ⟨trivial, ⟨⟨trivial, ⟨trivial, trivial⟩⟩, ⟨trivial, ⟨trivial, ⟨⟨trivial, c8⟩, ⟨trivial, ⟨trivial, ⟨trivial, ⟨⟨trivial, trivial⟩, ⟨trivial, ⟨⟨trivial, c10⟩, ⟨trivial, ⟨trivial, trivial⟩⟩⟩⟩⟩⟩⟩⟩⟩⟩⟩⟩⟩⟩⟩⟩⟩⟩⟩⟩
            refine TS.reg [.none, .none, (.call (.bool y_2) []), .none, .dec false, .none, .none, .none, .none, .none, .none, .dec false, .none, .none, .none, .none, .none, .dec false] ?_ ?_
            · apply prop_of ?_ hq
              kernel_rfl
            refine XS.then ?_
            refine TS.no ?_ ?_
            · kernel_rfl
            refine TS.skip ?_
            refine XS.blockEnd ?_
            refine XS.then ?_
            have hq : (True) ∧ ((True) ∧ (True)) := ⟨trivial, ⟨trivial, trivial⟩⟩
            refine TS.reg [] ?_ ?_
            · apply prop_of ?_ hq
              kernel_rfl
            refine XS.reAny [] (mkMask 34 [6, 7]) (IntKind.wrap .i64 (x + (1 : Int))) h ?_
            kernel_rfl
    · refine TS.cond (decide (x < (16 : Int))) ?_ (fun e => by rw [c2] at e; cases e) (fun e => ?_)
      · kernel_rfl
      refine TS.exit ?_
      refine XS.passE ?_
      refine XS.passE ?_
      refine XS.out ?_
      refine XS.then ?_
      refine TS.seq ?_
      have hq : (True) ∧ (True) := ⟨trivial, trivial⟩
      refine TS.reg [] ?_ ?_
      · apply prop_of ?_ hq
        kernel_rfl
      refine XS.then ?_
      refine TS.ret ?_
      obtain rfl : (0 : Int) = r := Option.some.inj h
      exact XS.fin [] ((True) ∧ (True)) (by kernel_rfl) ⟨trivial, trivial⟩

/-! plugtree/plugref.Handles -/
def F65_l2 (n : Nat) (r_Rooms : List (Int × Bool × Int)) (k65_2 : (Int × (List Int)) → Option (List Int)) : (Int × (List Int)) → Option (List Int)
  | (x, m1) => (bif (decide (x < (16 : Int))) then (bif inb x 16 then (bif (r_Rooms.getD x.toNat ((0 : Int), (false, (0 : Int)))).2.1 then (k65_2 ((IntKind.wrap .i64 (x + (1 : Int))), ((m1.set x.toNat (-1 : Int)).set x.toNat (IntKind.wrap .i64 ((IntKind.wrap .i64 ((16 : Int) * (r_Rooms.getD x.toNat ((0 : Int), (false, (0 : Int)))).1)) + x))))) else (k65_2 ((IntKind.wrap .i64 (x + (1 : Int))), (m1.set x.toNat (-1 : Int))))) else none) else (some m1))
def F65 (n : Nat) (r_Rooms : List (Int × Bool × Int)) : Option (List Int) := (loopF (F65_l2 n r_Rooms) n ((0 : Int), (List.replicate 16 (0 : Int))))
theorem F65_ok (n : Nat) (r_Rooms : List (Int × Bool × Int)) (r : List Int) (h : F65 n r_Rooms = some r) : PureC Try.prog 65 [(.st (.arr 16 (.st (.pair (.int .i64) (.pair .bool (.int .i64)))) r_Rooms))] (.arr 16 (.int .i64) r) [] := by
  refine PureC.mkS Try.func65 rfl rfl ?_
  intro w0 fz0 hfz
  replace h : (loopF (F65_l2 n r_Rooms) n ((0 : Int), (List.replicate 16 (0 : Int)))) = some r := h
  refine TS.seq ?_
  have hq : (True) ∧ ((True) ∧ (True)) := ⟨trivial, ⟨trivial, trivial⟩⟩
  refine TS.reg [] ?_ ?_
  · apply prop_of ?_ hq
    kernel_rfl
  refine XS.then ?_
  refine TS.seq ?_
  have hq : (True) ∧ (True) := ⟨trivial, trivial⟩
  refine TS.reg [] ?_ ?_
  · apply prop_of ?_ hq
    kernel_rfl
  refine XS.then ?_
  refine TS.seq ?_
  refine TS.seq ?_
  have hq : (True) ∧ ((True) ∧ ((True) ∧ (True))) := ⟨trivial, ⟨trivial, ⟨trivial, trivial⟩⟩⟩
  refine TS.reg [] ?_ ?_
  · apply prop_of ?_ hq
    kernel_rfl
  refine XS.then ?_
  refine TS.block ?_
  refine TS.reLoop [1, 2] (mkMask 25 [2, 3, 7, 8]) (D := Int × (List Int)) (fun d => match d with | (x, m1) => (mkTs 25 [(2, (.ptr 0 [])), (3, (.ptr 1 [])), (7, (.arr 16 (.st (.pair (.int .i64) (.pair .bool (.int .i64)))) r_Rooms)), (8, (.int .i64 x))], [(.box 95 (.arr 16 (.int .i64) (List.replicate 16 (0 : Int)))), (.box 95 (.arr 16 (.int .i64) m1))])) (fun n' d => loopF (F65_l2 n r_Rooms) n' d = some r) n ((0 : Int), (List.replicate 16 (0 : Int))) h ?_ (fun d => loopF_zero _ d r) ?_
  · kernel_rfl
  · rintro n2 ⟨x, m1⟩ h
    replace h : (bif (decide (x < (16 : Int))) then (bif inb x 16 then (bif (r_Rooms.getD x.toNat ((0 : Int), (false, (0 : Int)))).2.1 then ((loopF (F65_l2 n r_Rooms) n2) ((IntKind.wrap .i64 (x + (1 : Int))), ((m1.set x.toNat (-1 : Int)).set x.toNat (IntKind.wrap .i64 ((IntKind.wrap .i64 ((16 : Int) * (r_Rooms.getD x.toNat ((0 : Int), (false, (0 : Int)))).1)) + x))))) else ((loopF (F65_l2 n r_Rooms) n2) ((IntKind.wrap .i64 (x + (1 : Int))), (m1.set x.toNat (-1 : Int))))) else none) else (some m1)) = some r := h
    refine TS.seq ?_
    have hq : (True) ∧ (True) := ⟨trivial, trivial⟩
    refine TS.reg [] ?_ ?_
    · apply prop_of ?_ hq
      kernel_rfl
    refine XS.then ?_
    refine TS.seq ?_
    rcases bif_some h with ⟨c1, h⟩ | ⟨c2, h⟩
    · refine TS.cond (decide (x < (16 : Int))) ?_ (fun e => ?_) (fun e => by rw [c1] at e; cases e)
      · kernel_rfl
      refine TS.skip ?_
      refine XS.then ?_
      refine TS.seq ?_
      refine TS.block ?_
      refine TS.seq ?_
      obtain ⟨t3, h⟩ := test_some h
      have hq : (True) ∧ ((inR x 16) ∧ ((True) ∧ ((True) ∧ ((True) ∧ (True))))) := ⟨trivial, ⟨inb_ok t3, ⟨trivial, ⟨trivial, ⟨trivial, trivial⟩⟩⟩⟩⟩
      refine TS.reg [] ?_ ?_
      · apply prop_of ?_ hq
        kernel_rfl
      refine XS.then ?_
      refine TS.seq ?_
      have hq : (True) ∧ ((inR x 16) ∧ ((x.toNat < 16 ∧ (True)) ∧ (True))) := ⟨trivial, ⟨inb_ok t3, ⟨⟨inR_lt (inb_ok t3), trivial⟩, trivial⟩⟩⟩
      refine TS.reg [] ?_ ?_
      · apply prop_of ?_ hq
        kernel_rfl
      refine XS.then ?_
      refine TS.seq ?_
      have hq : (True) ∧ ((True) ∧ (True)) := ⟨trivial, ⟨trivial, trivial⟩⟩
      refine TS.reg [] ?_ ?_
      · apply prop_of ?_ hq
        kernel_rfl
      refine XS.then ?_
      rcases bif_some h with ⟨c4, h⟩ | ⟨c5, h⟩
      · refine TS.cond ((r_Rooms.getD x.toNat ((0 : Int), (false, (0 : Int)))).2.1) ?_ (fun e => ?_) (fun e => by rw [c4] at e; cases e)
        · kernel_rfl
        have hq : (True) ∧ ((True) ∧ ((True) ∧ ((True) ∧ ((True) ∧ ((True) ∧ ((inR x 16) ∧ ((x.toNat < 16 ∧ (True)) ∧ (True)))))))) := ⟨trivial, ⟨trivial, ⟨trivial, ⟨trivial, ⟨trivial, ⟨trivial, ⟨inb_ok t3, ⟨⟨inR_lt (inb_ok t3), trivial⟩, trivial⟩⟩⟩⟩⟩⟩⟩⟩
        refine TS.reg [] ?_ ?_
        · apply prop_of ?_ hq
          kernel_rfl
        refine XS.blockEnd ?_
        refine XS.then ?_
        have hq : (True) ∧ ((True) ∧ (True)) := ⟨trivial, ⟨trivial, trivial⟩⟩
        refine TS.reg [] ?_ ?_
        · apply prop_of ?_ hq
          kernel_rfl
        refine XS.reAny [0, 1] (mkMask 25 [2, 3, 7, 8]) ((IntKind.wrap .i64 (x + (1 : Int))), ((m1.set x.toNat (-1 : Int)).set x.toNat (IntKind.wrap .i64 ((IntKind.wrap .i64 ((16 : Int) * (r_Rooms.getD x.toNat ((0 : Int), (false, (0 : Int)))).1)) + x)))) h ?_
        kernel_rfl
      · refine TS.cond ((r_Rooms.getD x.toNat ((0 : Int), (false, (0 : Int)))).2.1) ?_ (fun e => by rw [c5] at e; cases e) (fun e => ?_)
        · kernel_rfl
        refine TS.skip ?_
        refine XS.blockEnd ?_
        refine XS.then ?_
        have hq : (True) ∧ ((True) ∧ (True)) := ⟨trivial, ⟨trivial, trivial⟩⟩
        refine TS.reg [] ?_ ?_
        · apply prop_of ?_ hq
          kernel_rfl
        refine XS.reAny [0, 1] (mkMask 25 [2, 3, 7, 8]) ((IntKind.wrap .i64 (x + (1 : Int))), (m1.set x.toNat (-1 : Int))) h ?_
        kernel_rfl
    · refine TS.cond (decide (x < (16 : Int))) ?_ (fun e => by rw [c2] at e; cases e) (fun e => ?_)
      · kernel_rfl
      refine TS.exit ?_
      refine XS.passE ?_
      refine XS.passE ?_
      refine XS.out ?_
      refine XS.then ?_
      refine TS.seq ?_
      have hq : (True) ∧ ((True) ∧ (True)) := ⟨trivial, ⟨trivial, trivial⟩⟩
      refine TS.reg [] ?_ ?_
      · apply prop_of ?_ hq
        kernel_rfl
      refine XS.then ?_
      refine TS.ret ?_
      obtain rfl : m1 = r := Option.some.inj h
      exact XS.fin [] ((True) ∧ (True)) (by kernel_rfl) ⟨trivial, trivial⟩

/-! plugtree/plugref.Letting -/
def F20_l2 (n : Nat) (r_Rooms : List (Int × Bool × Int)) (what : Int) (y_5 : List Int) (k20_2 : Int → Option ((List (Int × Bool × Int)) × Int × Int)) : Int → Option ((List (Int × Bool × Int)) × Int × Int)
  | x => (bif (decide (x < (16 : Int))) then (bif inb x 16 then (bif (decide ((y_5.getD x.toNat (0 : Int)) < (0 : Int))) then (bif (decide ((r_Rooms.getD x.toNat ((0 : Int), (false, (0 : Int)))).1 < (65535 : Int))) then ((F65 n (r_Rooms.set x.toNat ((IntKind.wrap .i64 ((r_Rooms.getD x.toNat ((0 : Int), (false, (0 : Int)))).1 + (1 : Int))), (true, what)))).bind fun y_6 => (some ((r_Rooms.set x.toNat ((IntKind.wrap .i64 ((r_Rooms.getD x.toNat ((0 : Int), (false, (0 : Int)))).1 + (1 : Int))), (true, what))), (y_6.getD x.toNat (0 : Int)), (0 : Int)))) else (k20_2 (IntKind.wrap .i64 (x + (1 : Int))))) else (k20_2 (IntKind.wrap .i64 (x + (1 : Int))))) else none) else (some ((List.replicate 16 ((0 : Int), (false, (0 : Int)))), (0 : Int), (11 : Int))))
def F20 (n : Nat) (r_Rooms : List (Int × Bool × Int)) (what : Int) : Option ((List (Int × Bool × Int)) × Int × Int) := ((F22 n r_Rooms).bind fun y_4 => (bif (y_4 != (0 : Int)) then (some ((List.replicate 16 ((0 : Int), (false, (0 : Int)))), (0 : Int), y_4)) else ((F65 n r_Rooms).bind fun y_5 => (loopF (F20_l2 n r_Rooms what y_5) n (0 : Int)))))
theorem F20_ok (n : Nat) (r_Rooms : List (Int × Bool × Int)) (what : Int) (r : (List (Int × Bool × Int)) × Int × Int) (h : F20 n r_Rooms what = some r) : PureC Try.prog 20 [(.st (.arr 16 (.st (.pair (.int .i64) (.pair .bool (.int .i64)))) r_Rooms)), (.int .i64 what)] (.tup (.cons (.st (.arr 16 (.st (.pair (.int .i64) (.pair .bool (.int .i64)))) r.1)) (.cons (.int .i64 r.2.1) (.cons (.int .i64 r.2.2) .nil)))) [] := by
  refine PureC.mkS Try.func20 rfl rfl ?_
  intro w0 fz0 hfz
  replace h : ((F22 n r_Rooms).bind fun y_4 => (bif (y_4 != (0 : Int)) then (some ((List.replicate 16 ((0 : Int), (false, (0 : Int)))), (0 : Int), y_4)) else ((F65 n r_Rooms).bind fun y_5 => (loopF (F20_l2 n r_Rooms what y_5) n (0 : Int))))) = some r := h
  refine TS.seq ?_
  have hq : (True) ∧ ((True) ∧ ((True) ∧ ((True) ∧ (True)))) := ⟨trivial, ⟨trivial, ⟨trivial, ⟨trivial, trivial⟩⟩⟩⟩
  refine TS.reg [] ?_ ?_
  · apply prop_of ?_ hq
    kernel_rfl
  refine XS.then ?_
  refine TS.seq ?_
  refine TS.seq ?_
  obtain ⟨y_4, hx1, h⟩ := bind_some' h
  have hq : (True) ∧ ((PureC Try.prog 22 [(.st (.arr 16 (.st (.pair (.int .i64) (.pair .bool (.int .i64)))) r_Rooms))] (.int .i64 y_4) []) ∧ ((True) ∧ (True))) := ⟨trivial, ⟨F22_ok n r_Rooms y_4 hx1, ⟨trivial, trivial⟩⟩⟩
  refine TS.reg [.none, (.call (.int .i64 y_4) [])] ?_ ?_
  · apply prop_of ?_ hq
    kernel_rfl
  refine XS.then ?_
  refine TS.seq ?_
  have hq : (True) ∧ ((True) ∧ (True)) := ⟨trivial, ⟨trivial, trivial⟩⟩
  refine TS.reg [] ?_ ?_
  · apply prop_of ?_ hq
    kernel_rfl
  refine XS.then ?_
  rcases bif_some h with ⟨c2, h⟩ | ⟨c3, h⟩
  · refine TS.cond (y_4 != (0 : Int)) ?_ (fun e => ?_) (fun e => by rw [c2] at e; cases e)
    · kernel_rfl
    refine TS.seq ?_
    have hq : (True) ∧ ((True) ∧ ((True) ∧ ((True) ∧ ((True) ∧ (True))))) := ⟨trivial, ⟨trivial, ⟨trivial, ⟨trivial, ⟨trivial, trivial⟩⟩⟩⟩⟩
    refine TS.reg [] ?_ ?_
    · apply prop_of ?_ hq
      kernel_rfl
    refine XS.then ?_
    refine TS.ret ?_
    refine XS.passR ?_
    obtain rfl : ((List.replicate 16 ((0 : Int), (false, (0 : Int)))), (0 : Int), y_4) = r := Option.some.inj h
    exact XS.fin [] ((True) ∧ ((True) ∧ ((True) ∧ (True)))) (by kernel_rfl) ⟨trivial, ⟨trivial, ⟨trivial, trivial⟩⟩⟩
  · refine TS.cond (y_4 != (0 : Int)) ?_ (fun e => by rw [c3] at e; cases e) (fun e => ?_)
    · kernel_rfl
    refine TS.skip ?_
    refine XS.then ?_
    refine TS.seq ?_
    refine TS.seq ?_
    obtain ⟨y_5, hx4, h⟩ := bind_some' h
    have hq : (True) ∧ ((PureC Try.prog 65 [(.st (.arr 16 (.st (.pair (.int .i64) (.pair .bool (.int .i64)))) r_Rooms))] (.arr 16 (.int .i64) y_5) []) ∧ ((True) ∧ (True))) := ⟨trivial, ⟨F65_ok n r_Rooms y_5 hx4, ⟨trivial, trivial⟩⟩⟩
    refine TS.reg [.none, (.call (.arr 16 (.int .i64) y_5) [])] ?_ ?_
    · apply prop_of ?_ hq
      kernel_rfl
    refine XS.then ?_
    refine TS.block ?_
    refine TS.reLoop [0, 1] (mkMask 50 [1, 2, 4, 17, 18]) (D := Int) (fun d => match d with | x => (mkTs 50 [(1, (.int .i64 what)), (2, (.ptr 0 [])), (4, (.ptr 1 [])), (17, (.arr 16 (.int .i64) y_5)), (18, (.int .i64 x))], [(.box 39 (.st (.arr 16 (.st (.pair (.int .i64) (.pair .bool (.int .i64)))) r_Rooms))), (.box 39 (.st (.arr 16 (.st (.pair (.int .i64) (.pair .bool (.int .i64)))) (List.replicate 16 ((0 : Int), (false, (0 : Int)))))))])) (fun n' d => loopF (F20_l2 n r_Rooms what y_5) n' d = some r) n (0 : Int) h ?_ (fun d => loopF_zero _ d r) ?_
    · kernel_rfl
    · rintro n2 x h
      replace h : (bif (decide (x < (16 : Int))) then (bif inb x 16 then (bif (decide ((y_5.getD x.toNat (0 : Int)) < (0 : Int))) then (bif (decide ((r_Rooms.getD x.toNat ((0 : Int), (false, (0 : Int)))).1 < (65535 : Int))) then ((F65 n (r_Rooms.set x.toNat ((IntKind.wrap .i64 ((r_Rooms.getD x.toNat ((0 : Int), (false, (0 : Int)))).1 + (1 : Int))), (true, what)))).bind fun y_6 => (some ((r_Rooms.set x.toNat ((IntKind.wrap .i64 ((r_Rooms.getD x.toNat ((0 : Int), (false, (0 : Int)))).1 + (1 : Int))), (true, what))), (y_6.getD x.toNat (0 : Int)), (0 : Int)))) else ((loopF (F20_l2 n r_Rooms what y_5) n2) (IntKind.wrap .i64 (x + (1 : Int))))) else ((loopF (F20_l2 n r_Rooms what y_5) n2) (IntKind.wrap .i64 (x + (1 : Int))))) else none) else (some ((List.replicate 16 ((0 : Int), (false, (0 : Int)))), (0 : Int), (11 : Int)))) = some r := h
      refine TS.seq ?_
      have hq : (True) ∧ (True) := ⟨trivial, trivial⟩
      refine TS.reg [] ?_ ?_
      · apply prop_of ?_ hq
        kernel_rfl
      refine XS.then ?_
      refine TS.seq ?_
      rcases bif_some h with ⟨c5, h⟩ | ⟨c6, h⟩
      · refine TS.cond (decide (x < (16 : Int))) ?_ (fun e => ?_) (fun e => by rw [c5] at e; cases e)
        · kernel_rfl
        refine TS.skip ?_
        refine XS.then ?_
        refine TS.seq ?_
        refine TS.block ?_
        refine TS.seq ?_
        obtain ⟨t7, h⟩ := test_some h
        have hq : (True) ∧ ((inR x 16) ∧ ((True) ∧ ((True) ∧ (True)))) := ⟨trivial, ⟨inb_ok t7, ⟨trivial, ⟨trivial, trivial⟩⟩⟩⟩
        refine TS.reg [] ?_ ?_
        · apply prop_of ?_ hq
          kernel_rfl
        refine XS.then ?_
        refine TS.seq ?_
        rcases bif_some h with ⟨c8, h⟩ | ⟨c9, h⟩
        · have hq : (True) ∧ ((True) ∧ (((True) ∧ (decide ((y_5.getD x.toNat (0 : Int)) < (0 : Int))) = true) ∧ ((True) ∧ ((True) ∧ ((inR x 16) ∧ ((True) ∧ ((x.toNat < 16 ∧ (True)) ∧ ((True) ∧ ((True) ∧ (True)))))))))) := ⟨trivial, ⟨trivial, ⟨⟨trivial, c8⟩, ⟨trivial, ⟨trivial, ⟨inb_ok t7, ⟨trivial, ⟨⟨inR_lt (inb_ok t7), trivial⟩, ⟨trivial, ⟨trivial, trivial⟩⟩⟩⟩⟩⟩⟩⟩⟩⟩
          refine TS.reg [.none, .none, .dec true] ?_ ?_
          · apply prop_of ?_ hq
            kernel_rfl
          refine XS.then ?_
          rcases bif_some h with ⟨c10, h⟩ | ⟨c11, h⟩
          · refine TS.cond (decide ((r_Rooms.getD x.toNat ((0 : Int), (false, (0 : Int)))).1 < (65535 : Int))) ?_ (fun e => ?_) (fun e => by rw [c10] at e; cases e)
            · kernel_rfl
            refine TS.seq ?_
            have hq : (True) ∧ ((True) ∧ ((True) ∧ ((inR x 16) ∧ ((True) ∧ ((x.toNat < 16 ∧ (True)) ∧ ((True) ∧ ((True) ∧ (((True) ∧ ((True) ∧ ((True) ∧ (True)))) ∧ ((True) ∧ ((inR x 16) ∧ ((x.toNat < 16 ∧ (True)) ∧ (True)))))))))))) := ⟨trivial, ⟨trivial, ⟨trivial, ⟨inb_ok t7, ⟨trivial, ⟨⟨inR_lt (inb_ok t7), trivial⟩, ⟨trivial, ⟨trivial, ⟨⟨trivial, ⟨trivial, ⟨trivial, trivial⟩⟩⟩, ⟨trivial, ⟨inb_ok t7, ⟨⟨inR_lt (inb_ok t7), trivial⟩, trivial⟩⟩⟩⟩⟩⟩⟩⟩⟩⟩⟩⟩
            refine TS.reg [] ?_ ?_
            · apply prop_of ?_ hq
              kernel_rfl
            refine XS.then ?_
            refine TS.seq ?_
            obtain ⟨y_6, hx12, h⟩ := bind_some' h
            have hq : ((True) ∧ ((True) ∧ ((PureC Try.prog 65 [(.st (.arr 16 (.st (.pair (.int .i64) (.pair .bool (.int .i64)))) (r_Rooms.set x.toNat ((IntKind.wrap .i64 ((r_Rooms.getD x.toNat ((0 : Int), (false, (0 : Int)))).1 + (1 : Int))), (true, what)))))] (.arr 16 (.int .i64) y_6) []) ∧ ((True) ∧ ((inR x 16) ∧ ((True) ∧ (True))))))) ∧ ((True) ∧ ((True) ∧ (True))) := ⟨⟨trivial, ⟨trivial, ⟨F65_ok n (r_Rooms.set x.toNat ((IntKind.wrap .i64 ((r_Rooms.getD x.toNat ((0 : Int), (false, (0 : Int)))).1 + (1 : Int))), (true, what))) y_6 hx12, ⟨trivial, ⟨inb_ok t7, ⟨trivial, trivial⟩⟩⟩⟩⟩⟩, ⟨trivial, ⟨trivial, trivial⟩⟩⟩
            refine TS.draw 6 [1] [.none, .none, (.call (.arr 16 (.int .i64) y_6) [])] (by kernel_rfl) ?_ ?_
            · apply prop_of ?_ hq
              kernel_rfl
            refine XS.then ?_
            refine TS.ret ?_
            refine XS.blockRet ?_
            refine XS.passR ?_
            refine XS.passR ?_
            refine XS.blockRet ?_
            refine XS.passR ?_
            obtain rfl : ((r_Rooms.set x.toNat ((IntKind.wrap .i64 ((r_Rooms.getD x.toNat ((0 : Int), (false, (0 : Int)))).1 + (1 : Int))), (true, what))), (y_6.getD x.toNat (0 : Int)), (0 : Int)) = r := Option.some.inj h
            exact XS.fin [] ((True) ∧ ((True) ∧ ((True) ∧ (True)))) (by kernel_rfl) ⟨trivial, ⟨trivial, ⟨trivial, trivial⟩⟩⟩
          · refine TS.cond (decide ((r_Rooms.getD x.toNat ((0 : Int), (false, (0 : Int)))).1 < (65535 : Int))) ?_ (fun e => by rw [c11] at e; cases e) (fun e => ?_)
            · kernel_rfl
            refine TS.skip ?_
            refine XS.blockEnd ?_
            refine XS.then ?_
            have hq : (True) ∧ ((True) ∧ (True)) := ⟨trivial, ⟨trivial, trivial⟩⟩
            refine TS.reg [] ?_ ?_
            · apply prop_of ?_ hq
              kernel_rfl
            refine XS.reAny [0, 1] (mkMask 50 [1, 2, 4, 17, 18]) (IntKind.wrap .i64 (x + (1 : Int))) h ?_
            kernel_rfl
        · have hq : (True) ∧ ((True) ∧ (((True) ∧ (decide ((y_5.getD x.toNat (0 : Int)) < (0 : Int))) = false) ∧ ((True) ∧ (True)))) := ⟨trivial, ⟨trivial, ⟨⟨trivial, c9⟩, ⟨trivial, trivial⟩⟩⟩⟩
          refine TS.reg [.none, .none, .dec false] ?_ ?_
          · apply prop_of ?_ hq
            kernel_rfl
          refine XS.then ?_
          refine TS.no ?_ ?_
          · kernel_rfl
          refine TS.skip ?_
          refine XS.blockEnd ?_
          refine XS.then ?_
          have hq : (True) ∧ ((True) ∧ (True)) := ⟨trivial, ⟨trivial, trivial⟩⟩
          refine TS.reg [] ?_ ?_
          · apply prop_of ?_ hq
            kernel_rfl
          refine XS.reAny [0, 1] (mkMask 50 [1, 2, 4, 17, 18]) (IntKind.wrap .i64 (x + (1 : Int))) h ?_
          kernel_rfl
      · refine TS.cond (decide (x < (16 : Int))) ?_ (fun e => by rw [c6] at e; cases e) (fun e => ?_)
        · kernel_rfl
        refine TS.exit ?_
        refine XS.passE ?_
        refine XS.passE ?_
        refine XS.out ?_
        refine XS.then ?_
        refine TS.seq ?_
        have hq : (True) ∧ ((True) ∧ ((True) ∧ ((True) ∧ (True)))) := ⟨trivial, ⟨trivial, ⟨trivial, ⟨trivial, trivial⟩⟩⟩⟩
        refine TS.reg [] ?_ ?_
        · apply prop_of ?_ hq
          kernel_rfl
        refine XS.then ?_
        refine TS.ret ?_
        obtain rfl : ((List.replicate 16 ((0 : Int), (false, (0 : Int)))), (0 : Int), (11 : Int)) = r := Option.some.inj h
        exact XS.fin [] ((True) ∧ ((True) ∧ ((True) ∧ (True)))) (by kernel_rfl) ⟨trivial, ⟨trivial, ⟨trivial, trivial⟩⟩⟩

/-! plugtree/pluglaw.RegisterLets -/
def F5 (n : Nat) (r_Rooms : List (Int × Bool × Int)) (what : Int) : Option Bool := ((F19 n r_Rooms what).bind fun y_2 => ((F20 n r_Rooms what).bind fun y_3 => ((F21 n r_Rooms).bind fun y_4 => ((F22 n r_Rooms).bind fun y_5 => (bif (y_4 == y_5) then (bif (Sh.beq (.st (.arr 16 (.st (.pair (.int .i64) (.pair .bool (.int .i64)))))) y_2.1 y_3.1) then (bif (y_2.2.1 == y_3.2.1) then (some (y_2.2.2 == y_3.2.2)) else (some false)) else (some false)) else (some false))))))
theorem F5_ok (n : Nat) (r_Rooms : List (Int × Bool × Int)) (what : Int) (r : Bool) (h : F5 n r_Rooms what = some r) : PureC Try.prog 5 [(.st (.arr 16 (.st (.pair (.int .i64) (.pair .bool (.int .i64)))) r_Rooms)), (.int .i64 what)] (.bool r) [] := by
  refine PureC.mkS Try.func5 rfl rfl ?_
  intro w0 fz0 hfz
  replace h : ((F19 n r_Rooms what).bind fun y_2 => ((F20 n r_Rooms what).bind fun y_3 => ((F21 n r_Rooms).bind fun y_4 => ((F22 n r_Rooms).bind fun y_5 => (bif (y_4 == y_5) then (bif (Sh.beq (.st (.arr 16 (.st (.pair (.int .i64) (.pair .bool (.int .i64)))))) y_2.1 y_3.1) then (bif (y_2.2.1 == y_3.2.1) then (some (y_2.2.2 == y_3.2.2)) else (some false)) else (some false)) else (some false)))))) = some r := h
  refine TS.seq ?_
  have hq : (True) ∧ ((True) ∧ (True)) := ⟨trivial, ⟨trivial, trivial⟩⟩
  refine TS.reg [] ?_ ?_
  · apply prop_of ?_ hq
    kernel_rfl
  refine XS.then ?_
  refine TS.seq ?_
  obtain ⟨y_2, hx1, h⟩ := bind_some' h
  have hq : (True) ∧ ((True) ∧ ((PureC Try.prog 19 [(.st (.arr 16 (.st (.pair (.int .i64) (.pair .bool (.int .i64)))) r_Rooms)), (.int .i64 what)] (.tup (.cons (.st (.arr 16 (.st (.pair (.int .i64) (.pair .bool (.int .i64)))) y_2.1)) (.cons (.int .i64 y_2.2.1) (.cons (.int .i64 y_2.2.2) .nil)))) []) ∧ ((True) ∧ ((True) ∧ ((True) ∧ ((True) ∧ ((True) ∧ ((True) ∧ ((True) ∧ ((True) ∧ (True))))))))))) := ⟨trivial, ⟨trivial, ⟨F19_ok n r_Rooms what y_2 hx1, ⟨trivial, ⟨trivial, ⟨trivial, ⟨trivial, ⟨trivial, ⟨trivial, ⟨trivial, ⟨trivial, trivial⟩⟩⟩⟩⟩⟩⟩⟩⟩⟩⟩
  refine TS.reg [.none, .none, (.call (.tup (.cons (.st (.arr 16 (.st (.pair (.int .i64) (.pair .bool (.int .i64)))) y_2.1)) (.cons (.int .i64 y_2.2.1) (.cons (.int .i64 y_2.2.2) .nil)))) [])] ?_ ?_
  · apply prop_of ?_ hq
    kernel_rfl
  refine XS.then ?_
  refine TS.seq ?_
  obtain ⟨y_3, hx2, h⟩ := bind_some' h
  have hq : (True) ∧ ((True) ∧ ((PureC Try.prog 20 [(.st (.arr 16 (.st (.pair (.int .i64) (.pair .bool (.int .i64)))) r_Rooms)), (.int .i64 what)] (.tup (.cons (.st (.arr 16 (.st (.pair (.int .i64) (.pair .bool (.int .i64)))) y_3.1)) (.cons (.int .i64 y_3.2.1) (.cons (.int .i64 y_3.2.2) .nil)))) []) ∧ ((True) ∧ ((True) ∧ ((True) ∧ ((True) ∧ ((True) ∧ ((True) ∧ ((True) ∧ ((True) ∧ (True))))))))))) := ⟨trivial, ⟨trivial, ⟨F20_ok n r_Rooms what y_3 hx2, ⟨trivial, ⟨trivial, ⟨trivial, ⟨trivial, ⟨trivial, ⟨trivial, ⟨trivial, ⟨trivial, trivial⟩⟩⟩⟩⟩⟩⟩⟩⟩⟩⟩
  refine TS.reg [.none, .none, (.call (.tup (.cons (.st (.arr 16 (.st (.pair (.int .i64) (.pair .bool (.int .i64)))) y_3.1)) (.cons (.int .i64 y_3.2.1) (.cons (.int .i64 y_3.2.2) .nil)))) [])] ?_ ?_
  · apply prop_of ?_ hq
    kernel_rfl
  refine XS.then ?_
  refine TS.seq ?_
  obtain ⟨y_4, hx3, h⟩ := bind_some' h
  obtain ⟨y_5, hx4, h⟩ := bind_some' h
  rcases bif_some h with ⟨c5, h⟩ | ⟨c6, h⟩
  · rcases bif_some h with ⟨c7, h⟩ | ⟨c8, h⟩
    · rcases bif_some h with ⟨c9, h⟩ | ⟨c10, h⟩
      · have hq : ((True) ∧ ((PureC Try.prog 21 [(.st (.arr 16 (.st (.pair (.int .i64) (.pair .bool (.int .i64)))) r_Rooms))] (.int .i64 y_4) []) ∧ ((True) ∧ ((PureC Try.prog 22 [(.st (.arr 16 (.st (.pair (.int .i64) (.pair .bool (.int .i64)))) r_Rooms))] (.int .i64 y_5) []) ∧ ((True) ∧ (((True) ∧ (y_4 == y_5) = true) ∧ ((True) ∧ ((True) ∧ ((True) ∧ ((True) ∧ (((True) ∧ (Sh.beq (.st (.arr 16 (.st (.pair (.int .i64) (.pair .bool (.int .i64)))))) y_2.1 y_3.1) = true) ∧ ((True) ∧ ((True) ∧ ((True) ∧ ((True) ∧ (((True) ∧ (y_2.2.1 == y_3.2.1) = true) ∧ ((True) ∧ ((True) ∧ ((True) ∧ ((True) ∧ (True))))))))))))))))))))) ∧ ((True) ∧ (True)) := ⟨⟨trivial, ⟨F21_ok n r_Rooms y_4 hx3, ⟨trivial, ⟨F22_ok n r_Rooms y_5 hx4, ⟨trivial, ⟨⟨trivial, c5⟩, ⟨trivial, ⟨trivial, ⟨trivial, ⟨trivial, ⟨⟨trivial, c7⟩, ⟨trivial, ⟨trivial, ⟨trivial, ⟨trivial, ⟨⟨trivial, c9⟩, ⟨trivial, ⟨trivial, ⟨trivial, ⟨trivial, trivial⟩⟩⟩⟩⟩⟩⟩⟩⟩⟩⟩⟩⟩⟩⟩⟩⟩⟩⟩⟩, ⟨trivial, trivial⟩⟩
        refine TS.draw 20 [] [.none, (.call (.int .i64 y_4) []), .none, (.call (.int .i64 y_5) []), .none, .dec true, .none, .none, .none, .none, .dec true, .none, .none, .none, .none, .dec true] (by kernel_rfl) ?_ ?_
        · apply prop_of ?_ hq
          kernel_rfl
        refine XS.then ?_
        refine TS.ret ?_
        obtain rfl : (y_2.2.2 == y_3.2.2) = r := Option.some.inj h
        exact XS.fin [] ((True) ∧ (True)) (by kernel_rfl) ⟨trivial, trivial⟩
      · have hq : ((True) ∧ ((PureC Try.prog 21 [(.st (.arr 16 (.st (.pair (.int .i64) (.pair .bool (.int .i64)))) r_Rooms))] (.int .i64 y_4) []) ∧ ((True) ∧ ((PureC Try.prog 22 [(.st (.arr 16 (.st (.pair (.int .i64) (.pair .bool (.int .i64)))) r_Rooms))] (.int .i64 y_5) []) ∧ ((True) ∧ (((True) ∧ (y_4 == y_5) = true) ∧ ((True) ∧ ((True) ∧ ((True) ∧ ((True) ∧ (((True) ∧ (Sh.beq (.st (.arr 16 (.st (.pair (.int .i64) (.pair .bool (.int .i64)))))) y_2.1 y_3.1) = true) ∧ ((True) ∧ ((True) ∧ ((True) ∧ ((True) ∧ (((True) ∧ (y_2.2.1 == y_3.2.1) = false) ∧ ((True) ∧ (True)))))))))))))))))) ∧ ((True) ∧ (True)) := ⟨⟨trivial, ⟨F21_ok n r_Rooms y_4 hx3, ⟨trivial, ⟨F22_ok n r_Rooms y_5 hx4, ⟨trivial, ⟨⟨trivial, c5⟩, ⟨trivial, ⟨trivial, ⟨trivial, ⟨trivial, ⟨⟨trivial, c7⟩, ⟨trivial, ⟨trivial, ⟨trivial, ⟨trivial, ⟨⟨trivial, c10⟩, ⟨trivial, trivial⟩⟩⟩⟩⟩⟩⟩⟩⟩⟩⟩⟩⟩⟩⟩⟩⟩, ⟨trivial, trivial⟩⟩
        refine TS.draw 20 [] [.none, (.call (.int .i64 y_4) []), .none, (.call (.int .i64 y_5) []), .none, .dec true, .none, .none, .none, .none, .dec true, .none, .none, .none, .none, .dec false] (by kernel_rfl) ?_ ?_
        · apply prop_of ?_ hq
          kernel_rfl
        refine XS.then ?_
        refine TS.ret ?_
        obtain rfl : false = r := Option.some.inj h
        exact XS.fin [] ((True) ∧ (True)) (by kernel_rfl) ⟨trivial, trivial⟩
    · have hq : ((True) ∧ ((PureC Try.prog 21 [(.st (.arr 16 (.st (.pair (.int .i64) (.pair .bool (.int .i64)))) r_Rooms))] (.int .i64 y_4) []) ∧ ((True) ∧ ((PureC Try.prog 22 [(.st (.arr 16 (.st (.pair (.int .i64) (.pair .bool (.int .i64)))) r_Rooms))] (.int .i64 y_5) []) ∧ ((True) ∧ (((True) ∧ (y_4 == y_5) = true) ∧ ((True) ∧ ((True) ∧ ((True) ∧ ((True) ∧ (((True) ∧ (Sh.beq (.st (.arr 16 (.st (.pair (.int .i64) (.pair .bool (.int .i64)))))) y_2.1 y_3.1) = false) ∧ ((True) ∧ ((True) ∧ ((True) ∧ (True))))))))))))))) ∧ ((True) ∧ (True)) := ⟨⟨trivial, ⟨F21_ok n r_Rooms y_4 hx3, ⟨trivial, ⟨F22_ok n r_Rooms y_5 hx4, ⟨trivial, ⟨⟨trivial, c5⟩, ⟨trivial, ⟨trivial, ⟨trivial, ⟨trivial, ⟨⟨trivial, c8⟩, ⟨trivial, ⟨trivial, ⟨trivial, trivial⟩⟩⟩⟩⟩⟩⟩⟩⟩⟩⟩⟩⟩⟩, ⟨trivial, trivial⟩⟩
      refine TS.draw 20 [] [.none, (.call (.int .i64 y_4) []), .none, (.call (.int .i64 y_5) []), .none, .dec true, .none, .none, .none, .none, .dec false] (by kernel_rfl) ?_ ?_
      · apply prop_of ?_ hq
        kernel_rfl
      refine XS.then ?_
      refine TS.ret ?_
      obtain rfl : false = r := Option.some.inj h
      exact XS.fin [] ((True) ∧ (True)) (by kernel_rfl) ⟨trivial, trivial⟩
  · have hq : ((True) ∧ ((PureC Try.prog 21 [(.st (.arr 16 (.st (.pair (.int .i64) (.pair .bool (.int .i64)))) r_Rooms))] (.int .i64 y_4) []) ∧ ((True) ∧ ((PureC Try.prog 22 [(.st (.arr 16 (.st (.pair (.int .i64) (.pair .bool (.int .i64)))) r_Rooms))] (.int .i64 y_5) []) ∧ ((True) ∧ (((True) ∧ (y_4 == y_5) = false) ∧ ((True) ∧ ((True) ∧ ((True) ∧ ((True) ∧ ((True) ∧ (True)))))))))))) ∧ ((True) ∧ (True)) := ⟨⟨trivial, ⟨F21_ok n r_Rooms y_4 hx3, ⟨trivial, ⟨F22_ok n r_Rooms y_5 hx4, ⟨trivial, ⟨⟨trivial, c6⟩, ⟨trivial, ⟨trivial, ⟨trivial, ⟨trivial, ⟨trivial, trivial⟩⟩⟩⟩⟩⟩⟩⟩⟩⟩⟩, ⟨trivial, trivial⟩⟩
    refine TS.draw 20 [] [.none, (.call (.int .i64 y_4) []), .none, (.call (.int .i64 y_5) []), .none, .dec false] (by kernel_rfl) ?_ ?_
    · apply prop_of ?_ hq
      kernel_rfl
    refine XS.then ?_
    refine TS.ret ?_
    obtain rfl : false = r := Option.some.inj h
    exact XS.fin [] ((True) ∧ (True)) (by kernel_rfl) ⟨trivial, trivial⟩

/-! plugtree/register.find -/
def F67_l2 (n : Nat) (r_Rooms : List (Int × Bool × Int)) (handle : Int) (k67_2 : Int → Option Int) : Int → Option Int
  | x => (bif (decide (x < (16 : Int))) then (bif inb x 16 then (bif (r_Rooms.getD x.toNat ((0 : Int), (false, (0 : Int)))).2.1 then (bif (handle == (IntKind.wrap .i64 (x + (IntKind.wrap .i64 ((16 : Int) * (r_Rooms.getD x.toNat ((0 : Int), (false, (0 : Int)))).1))))) then (some x) else (k67_2 (IntKind.wrap .i64 (x + (1 : Int))))) else (k67_2 (IntKind.wrap .i64 (x + (1 : Int))))) else none) else (some (-1 : Int)))
def F67 (n : Nat) (r_Rooms : List (Int × Bool × Int)) (handle : Int) : Option Int := (loopF (F67_l2 n r_Rooms handle) n (0 : Int))
theorem F67_ok (n : Nat) (r_Rooms : List (Int × Bool × Int)) (handle : Int) (r : Int) (h : F67 n r_Rooms handle = some r) : PureC Try.prog 67 [(.st (.arr 16 (.st (.pair (.int .i64) (.pair .bool (.int .i64)))) r_Rooms)), (.int .i64 handle)] (.int .i64 r) [] := by
  refine PureC.mkS Try.func67 rfl rfl ?_
  intro w0 fz0 hfz
  replace h : (loopF (F67_l2 n r_Rooms handle) n (0 : Int)) = some r := h
  refine TS.seq ?_
  have hq : (True) ∧ ((True) ∧ (True)) := ⟨trivial, ⟨trivial, trivial⟩⟩
  refine TS.reg [] ?_ ?_
  · apply prop_of ?_ hq
    kernel_rfl
  refine XS.then ?_
  refine TS.seq ?_
  refine TS.seq ?_
  have hq : (True) ∧ ((True) ∧ ((True) ∧ (True))) := ⟨trivial, ⟨trivial, ⟨trivial, trivial⟩⟩⟩
  refine TS.reg [] ?_ ?_
  · apply prop_of ?_ hq
    kernel_rfl
  refine XS.then ?_
  refine TS.block ?_
  refine TS.reLoop [] (mkMask 26 [1, 8, 9]) (D := Int) (fun d => match d with | x => (mkTs 26 [(1, (.int .i64 handle)), (8, (.arr 16 (.st (.pair (.int .i64) (.pair .bool (.int .i64)))) r_Rooms)), (9, (.int .i64 x))], [])) (fun n' d => loopF (F67_l2 n r_Rooms handle) n' d = some r) n (0 : Int) h ?_ (fun d => loopF_zero _ d r) ?_
  · kernel_rfl
  · rintro n2 x h
    replace h : (bif (decide (x < (16 : Int))) then (bif inb x 16 then (bif (r_Rooms.getD x.toNat ((0 : Int), (false, (0 : Int)))).2.1 then (bif (handle == (IntKind.wrap .i64 (x + (IntKind.wrap .i64 ((16 : Int) * (r_Rooms.getD x.toNat ((0 : Int), (false, (0 : Int)))).1))))) then (some x) else ((loopF (F67_l2 n r_Rooms handle) n2) (IntKind.wrap .i64 (x + (1 : Int))))) else ((loopF (F67_l2 n r_Rooms handle) n2) (IntKind.wrap .i64 (x + (1 : Int))))) else none) else (some (-1 : Int))) = some r := h
    refine TS.seq ?_
    have hq : (True) ∧ (True) := ⟨trivial, trivial⟩
    refine TS.reg [] ?_ ?_
    · apply prop_of ?_ hq
      kernel_rfl
    refine XS.then ?_
    refine TS.seq ?_
    rcases bif_some h with ⟨c1, h⟩ | ⟨c2, h⟩
    · refine TS.cond (decide (x < (16 : Int))) ?_ (fun e => ?_) (fun e => by rw [c1] at e; cases e)
      · kernel_rfl
      refine TS.skip ?_
      refine XS.then ?_
      refine TS.seq ?_
      refine TS.block ?_
      refine TS.seq ?_
      obtain ⟨t3, h⟩ := test_some h
      have hq : (True) ∧ ((inR x 16) ∧ ((True) ∧ ((True) ∧ ((True) ∧ (True))))) := ⟨trivial, ⟨inb_ok t3, ⟨trivial, ⟨trivial, ⟨trivial, trivial⟩⟩⟩⟩⟩
      refine TS.reg [] ?_ ?_
      · apply prop_of ?_ hq
        kernel_rfl
      refine XS.then ?_
      refine TS.seq ?_
      rcases bif_some h with ⟨c4, h⟩ | ⟨c5, h⟩
      · have hq : (True) ∧ ((True) ∧ (((True) ∧ (r_Rooms.getD x.toNat ((0 : Int), (false, (0 : Int)))).2.1 = true) ∧ ((True) ∧ ((True) ∧ ((True) ∧ ((True) ∧ ((True) ∧ ((True) ∧ ((True) ∧ ((True) ∧ (True))))))))))) := ⟨trivial, ⟨trivial, ⟨⟨trivial, c4⟩, ⟨trivial, ⟨trivial, ⟨trivial, ⟨trivial, ⟨trivial, ⟨trivial, ⟨trivial, ⟨trivial, trivial⟩⟩⟩⟩⟩⟩⟩⟩⟩⟩⟩
        refine TS.reg [.none, .none, .dec true] ?_ ?_
        · apply prop_of ?_ hq
          kernel_rfl
        refine XS.then ?_
        rcases bif_some h with ⟨c6, h⟩ | ⟨c7, h⟩
        · refine TS.cond (handle == (IntKind.wrap .i64 (x + (IntKind.wrap .i64 ((16 : Int) * (r_Rooms.getD x.toNat ((0 : Int), (false, (0 : Int)))).1))))) ?_ (fun e => ?_) (fun e => by rw [c6] at e; cases e)
          · kernel_rfl
          refine TS.seq ?_
          have hq : (True) ∧ ((True) ∧ (True)) := ⟨trivial, ⟨trivial, trivial⟩⟩
          refine TS.reg [] ?_ ?_
          · apply prop_of ?_ hq
            kernel_rfl
          refine XS.then ?_
          refine TS.ret ?_
          refine XS.blockRet ?_
          refine XS.passR ?_
          refine XS.passR ?_
          refine XS.blockRet ?_
          refine XS.passR ?_
          obtain rfl : x = r := Option.some.inj h
          exact XS.fin [] ((True) ∧ (True)) (by kernel_rfl) ⟨trivial, trivial⟩
        · refine TS.cond (handle == (IntKind.wrap .i64 (x + (IntKind.wrap .i64 ((16 : Int) * (r_Rooms.getD x.toNat ((0 : Int), (false, (0 : Int)))).1))))) ?_ (fun e => by rw [c7] at e; cases e) (fun e => ?_)
          · kernel_rfl
          refine TS.skip ?_
          refine XS.blockEnd ?_
          refine XS.then ?_
          have hq : (True) ∧ ((True) ∧ (True)) := ⟨trivial, ⟨trivial, trivial⟩⟩
          refine TS.reg [] ?_ ?_
          · apply prop_of ?_ hq
            kernel_rfl
          refine XS.reAny [] (mkMask 26 [1, 8, 9]) (IntKind.wrap .i64 (x + (1 : Int))) h ?_
          kernel_rfl
      · have hq : (True) ∧ ((True) ∧ (((True) ∧ (r_Rooms.getD x.toNat ((0 : Int), (false, (0 : Int)))).2.1 = false) ∧ ((True) ∧ (True)))) := ⟨trivial, ⟨trivial, ⟨⟨trivial, c5⟩, ⟨trivial, trivial⟩⟩⟩⟩
        refine TS.reg [.none, .none, .dec false] ?_ ?_
        · apply prop_of ?_ hq
          kernel_rfl
        refine XS.then ?_
        refine TS.no ?_ ?_
        · kernel_rfl
        refine TS.skip ?_
        refine XS.blockEnd ?_
        refine XS.then ?_
        have hq : (True) ∧ ((True) ∧ (True)) := ⟨trivial, ⟨trivial, trivial⟩⟩
        refine TS.reg [] ?_ ?_
        · apply prop_of ?_ hq
          kernel_rfl
        refine XS.reAny [] (mkMask 26 [1, 8, 9]) (IntKind.wrap .i64 (x + (1 : Int))) h ?_
        kernel_rfl
    · refine TS.cond (decide (x < (16 : Int))) ?_ (fun e => by rw [c2] at e; cases e) (fun e => ?_)
      · kernel_rfl
      refine TS.exit ?_
      refine XS.passE ?_
      refine XS.passE ?_
      refine XS.out ?_
      refine XS.then ?_
      refine TS.seq ?_
      have hq : (True) ∧ (True) := ⟨trivial, trivial⟩
      refine TS.reg [] ?_ ?_
      · apply prop_of ?_ hq
        kernel_rfl
      refine XS.then ?_
      refine TS.ret ?_
      obtain rfl : (-1 : Int) = r := Option.some.inj h
      exact XS.fin [] ((True) ∧ (True)) (by kernel_rfl) ⟨trivial, trivial⟩

/-! plugtree/register.Look -/
def F23 (n : Nat) (r_Rooms : List (Int × Bool × Int)) (handle : Int) : Option (Int × Int) := ((F21 n r_Rooms).bind fun y_3 => (bif (y_3 != (0 : Int)) then (some ((0 : Int), y_3)) else ((F67 n r_Rooms handle).bind fun y_4 => (bif (decide (y_4 < (0 : Int))) then (some ((0 : Int), (12 : Int))) else (bif inb y_4 16 then (some ((r_Rooms.getD y_4.toNat ((0 : Int), (false, (0 : Int)))).2.2, (0 : Int))) else none)))))
theorem F23_ok (n : Nat) (r_Rooms : List (Int × Bool × Int)) (handle : Int) (r : Int × Int) (h : F23 n r_Rooms handle = some r) : PureC Try.prog 23 [(.st (.arr 16 (.st (.pair (.int .i64) (.pair .bool (.int .i64)))) r_Rooms)), (.int .i64 handle)] (.tup (.cons (.int .i64 r.1) (.cons (.int .i64 r.2) .nil))) [] := by
  refine PureC.mkS Try.func23 rfl rfl ?_
  intro w0 fz0 hfz
  replace h : ((F21 n r_Rooms).bind fun y_3 => (bif (y_3 != (0 : Int)) then (some ((0 : Int), y_3)) else ((F67 n r_Rooms handle).bind fun y_4 => (bif (decide (y_4 < (0 : Int))) then (some ((0 : Int), (12 : Int))) else (bif inb y_4 16 then (some ((r_Rooms.getD y_4.toNat ((0 : Int), (false, (0 : Int)))).2.2, (0 : Int))) else none))))) = some r := h
  refine TS.seq ?_
  have hq : (True) ∧ ((True) ∧ ((True) ∧ (True))) := ⟨trivial, ⟨trivial, ⟨trivial, trivial⟩⟩⟩
  refine TS.reg [] ?_ ?_
  · apply prop_of ?_ hq
    kernel_rfl
  refine XS.then ?_
  refine TS.seq ?_
  refine TS.seq ?_
  obtain ⟨y_3, hx1, h⟩ := bind_some' h
  have hq : (True) ∧ ((PureC Try.prog 21 [(.st (.arr 16 (.st (.pair (.int .i64) (.pair .bool (.int .i64)))) r_Rooms))] (.int .i64 y_3) []) ∧ ((True) ∧ (True))) := ⟨trivial, ⟨F21_ok n r_Rooms y_3 hx1, ⟨trivial, trivial⟩⟩⟩
  refine TS.reg [.none, (.call (.int .i64 y_3) [])] ?_ ?_
  · apply prop_of ?_ hq
    kernel_rfl
  refine XS.then ?_
  refine TS.seq ?_
  have hq : (True) ∧ ((True) ∧ (True)) := ⟨trivial, ⟨trivial, trivial⟩⟩
  refine TS.reg [] ?_ ?_
  · apply prop_of ?_ hq
    kernel_rfl
  refine XS.then ?_
  rcases bif_some h with ⟨c2, h⟩ | ⟨c3, h⟩
  · refine TS.cond (y_3 != (0 : Int)) ?_ (fun e => ?_) (fun e => by rw [c2] at e; cases e)
    · kernel_rfl
    refine TS.seq ?_
    have hq : (True) ∧ ((True) ∧ ((True) ∧ (True))) := ⟨trivial, ⟨trivial, ⟨trivial, trivial⟩⟩⟩
    refine TS.reg [] ?_ ?_
    · apply prop_of ?_ hq
      kernel_rfl
    refine XS.then ?_
    refine TS.ret ?_
    refine XS.passR ?_
    obtain rfl : ((0 : Int), y_3) = r := Option.some.inj h
    exact XS.fin [] ((True) ∧ ((True) ∧ (True))) (by kernel_rfl) ⟨trivial, ⟨trivial, trivial⟩⟩
  · refine TS.cond (y_3 != (0 : Int)) ?_ (fun e => by rw [c3] at e; cases e) (fun e => ?_)
    · kernel_rfl
    refine TS.skip ?_
    refine XS.then ?_
    refine TS.seq ?_
    obtain ⟨y_4, hx4, h⟩ := bind_some' h
    have hq : (True) ∧ ((True) ∧ ((PureC Try.prog 67 [(.st (.arr 16 (.st (.pair (.int .i64) (.pair .bool (.int .i64)))) r_Rooms)), (.int .i64 handle)] (.int .i64 y_4) []) ∧ ((True) ∧ (True)))) := ⟨trivial, ⟨trivial, ⟨F67_ok n r_Rooms handle y_4 hx4, ⟨trivial, trivial⟩⟩⟩⟩
    refine TS.reg [.none, .none, (.call (.int .i64 y_4) [])] ?_ ?_
    · apply prop_of ?_ hq
      kernel_rfl
    refine XS.then ?_
    refine TS.seq ?_
    refine TS.seq ?_
    have hq : (True) ∧ ((True) ∧ (True)) := ⟨trivial, ⟨trivial, trivial⟩⟩
    refine TS.reg [] ?_ ?_
    · apply prop_of ?_ hq
      kernel_rfl
    refine XS.then ?_
    rcases bif_some h with ⟨c5, h⟩ | ⟨c6, h⟩
    · refine TS.cond (decide (y_4 < (0 : Int))) ?_ (fun e => ?_) (fun e => by rw [c5] at e; cases e)
      · kernel_rfl
      refine TS.seq ?_
      have hq : (True) ∧ ((True) ∧ (True)) := ⟨trivial, ⟨trivial, trivial⟩⟩
      refine TS.reg [] ?_ ?_
      · apply prop_of ?_ hq
        kernel_rfl
      refine XS.then ?_
      refine TS.ret ?_
      refine XS.passR ?_
      obtain rfl : ((0 : Int), (12 : Int)) = r := Option.some.inj h
      exact XS.fin [] ((True) ∧ ((True) ∧ (True))) (by kernel_rfl) ⟨trivial, ⟨trivial, trivial⟩⟩
    · refine TS.cond (decide (y_4 < (0 : Int))) ?_ (fun e => by rw [c6] at e; cases e) (fun e => ?_)
      · kernel_rfl
      refine TS.skip ?_
      refine XS.then ?_
      refine TS.seq ?_
      obtain ⟨t7, h⟩ := test_some h
      have hq : (True) ∧ ((True) ∧ ((inR y_4 16) ∧ ((True) ∧ ((y_4.toNat < 16 ∧ (True)) ∧ ((True) ∧ ((True) ∧ (True))))))) := ⟨trivial, ⟨trivial, ⟨inb_ok t7, ⟨trivial, ⟨⟨inR_lt (inb_ok t7), trivial⟩, ⟨trivial, ⟨trivial, trivial⟩⟩⟩⟩⟩⟩⟩
      refine TS.reg [] ?_ ?_
      · apply prop_of ?_ hq
        kernel_rfl
      refine XS.then ?_
      refine TS.ret ?_
      obtain rfl : ((r_Rooms.getD y_4.toNat ((0 : Int), (false, (0 : Int)))).2.2, (0 : Int)) = r := Option.some.inj h
      exact XS.fin [] ((True) ∧ ((True) ∧ (True))) (by kernel_rfl) ⟨trivial, ⟨trivial, trivial⟩⟩

/-! plugtree/register.End -/
def F24 (n : Nat) (r_Rooms : List (Int × Bool × Int)) (handle : Int) : Option ((List (Int × Bool × Int)) × Int) := ((F21 n r_Rooms).bind fun y_3 => (bif (y_3 != (0 : Int)) then (some ((List.replicate 16 ((0 : Int), (false, (0 : Int)))), y_3)) else ((F67 n r_Rooms handle).bind fun y_4 => (bif (decide (y_4 < (0 : Int))) then (some ((List.replicate 16 ((0 : Int), (false, (0 : Int)))), (12 : Int))) else (bif inb y_4 16 then (some (((r_Rooms.set y_4.toNat ((r_Rooms.getD y_4.toNat ((0 : Int), (false, (0 : Int)))).1, (false, (r_Rooms.getD y_4.toNat ((0 : Int), (false, (0 : Int)))).2.2))).set y_4.toNat (((r_Rooms.set y_4.toNat ((r_Rooms.getD y_4.toNat ((0 : Int), (false, (0 : Int)))).1, (false, (r_Rooms.getD y_4.toNat ((0 : Int), (false, (0 : Int)))).2.2))).getD y_4.toNat ((0 : Int), (false, (0 : Int)))).1, (((r_Rooms.set y_4.toNat ((r_Rooms.getD y_4.toNat ((0 : Int), (false, (0 : Int)))).1, (false, (r_Rooms.getD y_4.toNat ((0 : Int), (false, (0 : Int)))).2.2))).getD y_4.toNat ((0 : Int), (false, (0 : Int)))).2.1, (0 : Int)))), (0 : Int))) else none)))))
theorem F24_ok (n : Nat) (r_Rooms : List (Int × Bool × Int)) (handle : Int) (r : (List (Int × Bool × Int)) × Int) (h : F24 n r_Rooms handle = some r) : PureC Try.prog 24 [(.st (.arr 16 (.st (.pair (.int .i64) (.pair .bool (.int .i64)))) r_Rooms)), (.int .i64 handle)] (.tup (.cons (.st (.arr 16 (.st (.pair (.int .i64) (.pair .bool (.int .i64)))) r.1)) (.cons (.int .i64 r.2) .nil))) [] := by
  refine PureC.mkS Try.func24 rfl rfl ?_
  intro w0 fz0 hfz
  replace h : ((F21 n r_Rooms).bind fun y_3 => (bif (y_3 != (0 : Int)) then (some ((List.replicate 16 ((0 : Int), (false, (0 : Int)))), y_3)) else ((F67 n r_Rooms handle).bind fun y_4 => (bif (decide (y_4 < (0 : Int))) then (some ((List.replicate 16 ((0 : Int), (false, (0 : Int)))), (12 : Int))) else (bif inb y_4 16 then (some (((r_Rooms.set y_4.toNat ((r_Rooms.getD y_4.toNat ((0 : Int), (false, (0 : Int)))).1, (false, (r_Rooms.getD y_4.toNat ((0 : Int), (false, (0 : Int)))).2.2))).set y_4.toNat (((r_Rooms.set y_4.toNat ((r_Rooms.getD y_4.toNat ((0 : Int), (false, (0 : Int)))).1, (false, (r_Rooms.getD y_4.toNat ((0 : Int), (false, (0 : Int)))).2.2))).getD y_4.toNat ((0 : Int), (false, (0 : Int)))).1, (((r_Rooms.set y_4.toNat ((r_Rooms.getD y_4.toNat ((0 : Int), (false, (0 : Int)))).1, (false, (r_Rooms.getD y_4.toNat ((0 : Int), (false, (0 : Int)))).2.2))).getD y_4.toNat ((0 : Int), (false, (0 : Int)))).2.1, (0 : Int)))), (0 : Int))) else none))))) = some r := h
  refine TS.seq ?_
  have hq : (True) ∧ ((True) ∧ ((True) ∧ (True))) := ⟨trivial, ⟨trivial, ⟨trivial, trivial⟩⟩⟩
  refine TS.reg [] ?_ ?_
  · apply prop_of ?_ hq
    kernel_rfl
  refine XS.then ?_
  refine TS.seq ?_
  refine TS.seq ?_
  obtain ⟨y_3, hx1, h⟩ := bind_some' h
  have hq : (True) ∧ ((PureC Try.prog 21 [(.st (.arr 16 (.st (.pair (.int .i64) (.pair .bool (.int .i64)))) r_Rooms))] (.int .i64 y_3) []) ∧ ((True) ∧ (True))) := ⟨trivial, ⟨F21_ok n r_Rooms y_3 hx1, ⟨trivial, trivial⟩⟩⟩
  refine TS.reg [.none, (.call (.int .i64 y_3) [])] ?_ ?_
  · apply prop_of ?_ hq
    kernel_rfl
  refine XS.then ?_
  refine TS.seq ?_
  have hq : (True) ∧ ((True) ∧ (True)) := ⟨trivial, ⟨trivial, trivial⟩⟩
  refine TS.reg [] ?_ ?_
  · apply prop_of ?_ hq
    kernel_rfl
  refine XS.then ?_
  rcases bif_some h with ⟨c2, h⟩ | ⟨c3, h⟩
  · refine TS.cond (y_3 != (0 : Int)) ?_ (fun e => ?_) (fun e => by rw [c2] at e; cases e)
    · kernel_rfl
    refine TS.seq ?_
    have hq : (True) ∧ ((True) ∧ ((True) ∧ ((True) ∧ (True)))) := ⟨trivial, ⟨trivial, ⟨trivial, ⟨trivial, trivial⟩⟩⟩⟩
    refine TS.reg [] ?_ ?_
    · apply prop_of ?_ hq
      kernel_rfl
    refine XS.then ?_
    refine TS.ret ?_
    refine XS.passR ?_
    obtain rfl : ((List.replicate 16 ((0 : Int), (false, (0 : Int)))), y_3) = r := Option.some.inj h
    exact XS.fin [] ((True) ∧ ((True) ∧ (True))) (by kernel_rfl) ⟨trivial, ⟨trivial, trivial⟩⟩
  · refine TS.cond (y_3 != (0 : Int)) ?_ (fun e => by rw [c3] at e; cases e) (fun e => ?_)
    · kernel_rfl
    refine TS.skip ?_
    refine XS.then ?_
    refine TS.seq ?_
    obtain ⟨y_4, hx4, h⟩ := bind_some' h
    have hq : (True) ∧ ((True) ∧ ((PureC Try.prog 67 [(.st (.arr 16 (.st (.pair (.int .i64) (.pair .bool (.int .i64)))) r_Rooms)), (.int .i64 handle)] (.int .i64 y_4) []) ∧ ((True) ∧ (True)))) := ⟨trivial, ⟨trivial, ⟨F67_ok n r_Rooms handle y_4 hx4, ⟨trivial, trivial⟩⟩⟩⟩
    refine TS.reg [.none, .none, (.call (.int .i64 y_4) [])] ?_ ?_
    · apply prop_of ?_ hq
      kernel_rfl
    refine XS.then ?_
    refine TS.seq ?_
    refine TS.seq ?_
    have hq : (True) ∧ ((True) ∧ (True)) := ⟨trivial, ⟨trivial, trivial⟩⟩
    refine TS.reg [] ?_ ?_
    · apply prop_of ?_ hq
      kernel_rfl
    refine XS.then ?_
    rcases bif_some h with ⟨c5, h⟩ | ⟨c6, h⟩
    · refine TS.cond (decide (y_4 < (0 : Int))) ?_ (fun e => ?_) (fun e => by rw [c5] at e; cases e)
      · kernel_rfl
      refine TS.seq ?_
      have hq : (True) ∧ ((True) ∧ ((True) ∧ (True))) := ⟨trivial, ⟨trivial, ⟨trivial, trivial⟩⟩⟩
      refine TS.reg [] ?_ ?_
      · apply prop_of ?_ hq
        kernel_rfl
      refine XS.then ?_
      refine TS.ret ?_
      refine XS.passR ?_
      obtain rfl : ((List.replicate 16 ((0 : Int), (false, (0 : Int)))), (12 : Int)) = r := Option.some.inj h
      exact XS.fin [] ((True) ∧ ((True) ∧ (True))) (by kernel_rfl) ⟨trivial, ⟨trivial, trivial⟩⟩
    · refine TS.cond (decide (y_4 < (0 : Int))) ?_ (fun e => by rw [c6] at e; cases e) (fun e => ?_)
      · kernel_rfl
      refine TS.skip ?_
      refine XS.then ?_
      refine TS.seq ?_
      obtain ⟨t7, h⟩ := test_some h
      have hq : (True) ∧ ((True) ∧ ((True) ∧ ((inR y_4 16) ∧ ((True) ∧ ((y_4.toNat < 16 ∧ (True)) ∧ ((True) ∧ ((inR y_4 16) ∧ ((True) ∧ ((y_4.toNat < 16 ∧ (True)) ∧ (True)))))))))) := ⟨trivial, ⟨trivial, ⟨trivial, ⟨inb_ok t7, ⟨trivial, ⟨⟨inR_lt (inb_ok t7), trivial⟩, ⟨trivial, ⟨inb_ok t7, ⟨trivial, ⟨⟨inR_lt (inb_ok t7), trivial⟩, trivial⟩⟩⟩⟩⟩⟩⟩⟩⟩⟩
      refine TS.reg [] ?_ ?_
      · apply prop_of ?_ hq
        kernel_rfl
      refine XS.then ?_
      refine TS.seq ?_
      have hq : (True) ∧ ((True) ∧ ((True) ∧ (True))) := ⟨trivial, ⟨trivial, ⟨trivial, trivial⟩⟩⟩
      refine TS.reg [] ?_ ?_
      · apply prop_of ?_ hq
        kernel_rfl
      refine XS.then ?_
      refine TS.ret ?_
      obtain rfl : (((r_Rooms.set y_4.toNat ((r_Rooms.getD y_4.toNat ((0 : Int), (false, (0 : Int)))).1, (false, (r_Rooms.getD y_4.toNat ((0 : Int), (false, (0 : Int)))).2.2))).set y_4.toNat (((r_Rooms.set y_4.toNat ((r_Rooms.getD y_4.toNat ((0 : Int), (false, (0 : Int)))).1, (false, (r_Rooms.getD y_4.toNat ((0 : Int), (false, (0 : Int)))).2.2))).getD y_4.toNat ((0 : Int), (false, (0 : Int)))).1, (((r_Rooms.set y_4.toNat ((r_Rooms.getD y_4.toNat ((0 : Int), (false, (0 : Int)))).1, (false, (r_Rooms.getD y_4.toNat ((0 : Int), (false, (0 : Int)))).2.2))).getD y_4.toNat ((0 : Int), (false, (0 : Int)))).2.1, (0 : Int)))), (0 : Int)) = r := Option.some.inj h
      exact XS.fin [] ((True) ∧ ((True) ∧ (True))) (by kernel_rfl) ⟨trivial, ⟨trivial, trivial⟩⟩

/-! plugtree/plugref.Found -/
def F25_l2 (n : Nat) (handle : Int) (y_4 : List Int) (k25_2 : Int → Option (Int × Int)) : Int → Option (Int × Int)
  | x => (bif (decide (x < (16 : Int))) then (bif inb x 16 then (bif (decide ((y_4.getD x.toNat (0 : Int)) ≥ (0 : Int))) then (bif ((y_4.getD x.toNat (0 : Int)) == handle) then (some (x, (0 : Int))) else (k25_2 (IntKind.wrap .i64 (x + (1 : Int))))) else (k25_2 (IntKind.wrap .i64 (x + (1 : Int))))) else none) else (some ((0 : Int), (12 : Int))))
def F25 (n : Nat) (r_Rooms : List (Int × Bool × Int)) (handle : Int) : Option (Int × Int) := ((F22 n r_Rooms).bind fun y_3 => (bif (y_3 != (0 : Int)) then (some ((0 : Int), y_3)) else ((F65 n r_Rooms).bind fun y_4 => (loopF (F25_l2 n handle y_4) n (0 : Int)))))
theorem F25_ok (n : Nat) (r_Rooms : List (Int × Bool × Int)) (handle : Int) (r : Int × Int) (h : F25 n r_Rooms handle = some r) : PureC Try.prog 25 [(.st (.arr 16 (.st (.pair (.int .i64) (.pair .bool (.int .i64)))) r_Rooms)), (.int .i64 handle)] (.tup (.cons (.int .i64 r.1) (.cons (.int .i64 r.2) .nil))) [] := by
  refine PureC.mkS Try.func25 rfl rfl ?_
  intro w0 fz0 hfz
  replace h : ((F22 n r_Rooms).bind fun y_3 => (bif (y_3 != (0 : Int)) then (some ((0 : Int), y_3)) else ((F65 n r_Rooms).bind fun y_4 => (loopF (F25_l2 n handle y_4) n (0 : Int))))) = some r := h
  refine TS.seq ?_
  have hq : (True) ∧ ((True) ∧ ((True) ∧ (True))) := ⟨trivial, ⟨trivial, ⟨trivial, trivial⟩⟩⟩
  refine TS.reg [] ?_ ?_
  · apply prop_of ?_ hq
    kernel_rfl
  refine XS.then ?_
  refine TS.seq ?_
  refine TS.seq ?_
  obtain ⟨y_3, hx1, h⟩ := bind_some' h
  have hq : (True) ∧ ((PureC Try.prog 22 [(.st (.arr 16 (.st (.pair (.int .i64) (.pair .bool (.int .i64)))) r_Rooms))] (.int .i64 y_3) []) ∧ ((True) ∧ (True))) := ⟨trivial, ⟨F22_ok n r_Rooms y_3 hx1, ⟨trivial, trivial⟩⟩⟩
  refine TS.reg [.none, (.call (.int .i64 y_3) [])] ?_ ?_
  · apply prop_of ?_ hq
    kernel_rfl
  refine XS.then ?_
  refine TS.seq ?_
  have hq : (True) ∧ ((True) ∧ (True)) := ⟨trivial, ⟨trivial, trivial⟩⟩
  refine TS.reg [] ?_ ?_
  · apply prop_of ?_ hq
    kernel_rfl
  refine XS.then ?_
  rcases bif_some h with ⟨c2, h⟩ | ⟨c3, h⟩
  · refine TS.cond (y_3 != (0 : Int)) ?_ (fun e => ?_) (fun e => by rw [c2] at e; cases e)
    · kernel_rfl
    refine TS.seq ?_
    have hq : (True) ∧ ((True) ∧ ((True) ∧ (True))) := ⟨trivial, ⟨trivial, ⟨trivial, trivial⟩⟩⟩
    refine TS.reg [] ?_ ?_
    · apply prop_of ?_ hq
      kernel_rfl
    refine XS.then ?_
    refine TS.ret ?_
    refine XS.passR ?_
    obtain rfl : ((0 : Int), y_3) = r := Option.some.inj h
    exact XS.fin [] ((True) ∧ ((True) ∧ (True))) (by kernel_rfl) ⟨trivial, ⟨trivial, trivial⟩⟩
  · refine TS.cond (y_3 != (0 : Int)) ?_ (fun e => by rw [c3] at e; cases e) (fun e => ?_)
    · kernel_rfl
    refine TS.skip ?_
    refine XS.then ?_
    refine TS.seq ?_
    refine TS.seq ?_
    obtain ⟨y_4, hx4, h⟩ := bind_some' h
    have hq : (True) ∧ ((PureC Try.prog 65 [(.st (.arr 16 (.st (.pair (.int .i64) (.pair .bool (.int .i64)))) r_Rooms))] (.arr 16 (.int .i64) y_4) []) ∧ ((True) ∧ (True))) := ⟨trivial, ⟨F65_ok n r_Rooms y_4 hx4, ⟨trivial, trivial⟩⟩⟩
    refine TS.reg [.none, (.call (.arr 16 (.int .i64) y_4) [])] ?_ ?_
    · apply prop_of ?_ hq
      kernel_rfl
    refine XS.then ?_
    refine TS.block ?_
    refine TS.reLoop [] (mkMask 29 [1, 15, 16]) (D := Int) (fun d => match d with | x => (mkTs 29 [(1, (.int .i64 handle)), (15, (.arr 16 (.int .i64) y_4)), (16, (.int .i64 x))], [])) (fun n' d => loopF (F25_l2 n handle y_4) n' d = some r) n (0 : Int) h ?_ (fun d => loopF_zero _ d r) ?_
    · kernel_rfl
    · rintro n2 x h
      replace h : (bif (decide (x < (16 : Int))) then (bif inb x 16 then (bif (decide ((y_4.getD x.toNat (0 : Int)) ≥ (0 : Int))) then (bif ((y_4.getD x.toNat (0 : Int)) == handle) then (some (x, (0 : Int))) else ((loopF (F25_l2 n handle y_4) n2) (IntKind.wrap .i64 (x + (1 : Int))))) else ((loopF (F25_l2 n handle y_4) n2) (IntKind.wrap .i64 (x + (1 : Int))))) else none) else (some ((0 : Int), (12 : Int)))) = some r := h
      refine TS.seq ?_
      have hq : (True) ∧ (True) := ⟨trivial, trivial⟩
      refine TS.reg [] ?_ ?_
      · apply prop_of ?_ hq
        kernel_rfl
      refine XS.then ?_
      refine TS.seq ?_
      rcases bif_some h with ⟨c5, h⟩ | ⟨c6, h⟩
      · refine TS.cond (decide (x < (16 : Int))) ?_ (fun e => ?_) (fun e => by rw [c5] at e; cases e)
        · kernel_rfl
        refine TS.skip ?_
        refine XS.then ?_
        refine TS.seq ?_
        refine TS.block ?_
        refine TS.seq ?_
        obtain ⟨t7, h⟩ := test_some h
        have hq : (True) ∧ ((inR x 16) ∧ ((True) ∧ ((True) ∧ (True)))) := ⟨trivial, ⟨inb_ok t7, ⟨trivial, ⟨trivial, trivial⟩⟩⟩⟩
        refine TS.reg [] ?_ ?_
        · apply prop_of ?_ hq
          kernel_rfl
        refine XS.then ?_
        refine TS.seq ?_
        rcases bif_some h with ⟨c8, h⟩ | ⟨c9, h⟩
        · have hq : (True) ∧ ((True) ∧ (((True) ∧ (decide ((y_4.getD x.toNat (0 : Int)) ≥ (0 : Int))) = true) ∧ ((True) ∧ ((True) ∧ ((True) ∧ ((True) ∧ (True))))))) := ⟨trivial, ⟨trivial, ⟨⟨trivial, c8⟩, ⟨trivial, ⟨trivial, ⟨trivial, ⟨trivial, trivial⟩⟩⟩⟩⟩⟩⟩
          refine TS.reg [.none, .none, .dec true] ?_ ?_
          · apply prop_of ?_ hq
            kernel_rfl
          refine XS.then ?_
          rcases bif_some h with ⟨c10, h⟩ | ⟨c11, h⟩
          · refine TS.cond ((y_4.getD x.toNat (0 : Int)) == handle) ?_ (fun e => ?_) (fun e => by rw [c10] at e; cases e)
            · kernel_rfl
            refine TS.seq ?_
            have hq : (True) ∧ ((True) ∧ ((True) ∧ (True))) := ⟨trivial, ⟨trivial, ⟨trivial, trivial⟩⟩⟩
            refine TS.reg [] ?_ ?_
            · apply prop_of ?_ hq
              kernel_rfl
            refine XS.then ?_
            refine TS.ret ?_
            refine XS.blockRet ?_
            refine XS.passR ?_
            refine XS.passR ?_
            refine XS.blockRet ?_
            refine XS.passR ?_
            obtain rfl : (x, (0 : Int)) = r := Option.some.inj h
            exact XS.fin [] ((True) ∧ ((True) ∧ (True))) (by kernel_rfl) ⟨trivial, ⟨trivial, trivial⟩⟩
          · refine TS.cond ((y_4.getD x.toNat (0 : Int)) == handle) ?_ (fun e => by rw [c11] at e; cases e) (fun e => ?_)
            · kernel_rfl
            refine TS.skip ?_
            refine XS.blockEnd ?_
            refine XS.then ?_
            have hq : (True) ∧ ((True) ∧ (True)) := ⟨trivial, ⟨trivial, trivial⟩⟩
            refine TS.reg [] ?_ ?_
            · apply prop_of ?_ hq
              kernel_rfl
            refine XS.reAny [] (mkMask 29 [1, 15, 16]) (IntKind.wrap .i64 (x + (1 : Int))) h ?_
            kernel_rfl
        · have hq : (True) ∧ ((True) ∧ (((True) ∧ (decide ((y_4.getD x.toNat (0 : Int)) ≥ (0 : Int))) = false) ∧ ((True) ∧ (True)))) := ⟨trivial, ⟨trivial, ⟨⟨trivial, c9⟩, ⟨trivial, trivial⟩⟩⟩⟩
          refine TS.reg [.none, .none, .dec false] ?_ ?_
          · apply prop_of ?_ hq
            kernel_rfl
          refine XS.then ?_
          refine TS.no ?_ ?_
          · kernel_rfl
          refine TS.skip ?_
          refine XS.blockEnd ?_
          refine XS.then ?_
          have hq : (True) ∧ ((True) ∧ (True)) := ⟨trivial, ⟨trivial, trivial⟩⟩
          refine TS.reg [] ?_ ?_
          · apply prop_of ?_ hq
            kernel_rfl
          refine XS.reAny [] (mkMask 29 [1, 15, 16]) (IntKind.wrap .i64 (x + (1 : Int))) h ?_
          kernel_rfl
      · refine TS.cond (decide (x < (16 : Int))) ?_ (fun e => by rw [c6] at e; cases e) (fun e => ?_)
        · kernel_rfl
        refine TS.exit ?_
        refine XS.passE ?_
        refine XS.passE ?_
        refine XS.out ?_
        refine XS.then ?_
        refine TS.seq ?_
        have hq : (True) ∧ ((True) ∧ (True)) := ⟨trivial, ⟨trivial, trivial⟩⟩
        refine TS.reg [] ?_ ?_
        · apply prop_of ?_ hq
          kernel_rfl
        refine XS.then ?_
        refine TS.ret ?_
        obtain rfl : ((0 : Int), (12 : Int)) = r := Option.some.inj h
        exact XS.fin [] ((True) ∧ ((True) ∧ (True))) (by kernel_rfl) ⟨trivial, ⟨trivial, trivial⟩⟩

/-! plugtree/pluglaw.RegisterLooks -/
def F6_j2 (n : Nat) : Bool → Option Bool
  | x => (some x)
def F6 (n : Nat) (r_Rooms : List (Int × Bool × Int)) (handle : Int) : Option Bool := ((F23 n r_Rooms handle).bind fun y_2 => ((F24 n r_Rooms handle).bind fun y_3 => ((F25 n r_Rooms handle).bind fun y_4 => (bif (y_4.2 != (0 : Int)) then (bif (y_2.1 == (0 : Int)) then (bif (y_2.2 == y_4.2) then (bif (Sh.beq (.st (.arr 16 (.st (.pair (.int .i64) (.pair .bool (.int .i64)))))) y_3.1 (List.replicate 16 ((0 : Int), (false, (0 : Int))))) then (F6_j2 n (y_3.2 == y_4.2)) else (F6_j2 n false)) else (F6_j2 n false)) else (F6_j2 n false)) else (bif inb y_4.1 16 then (bif (y_2.1 == (r_Rooms.getD y_4.1.toNat ((0 : Int), (false, (0 : Int)))).2.2) then (bif (y_2.2 == (0 : Int)) then (bif (Sh.beq (.st (.arr 16 (.st (.pair (.int .i64) (.pair .bool (.int .i64)))))) y_3.1 (r_Rooms.set y_4.1.toNat ((r_Rooms.getD y_4.1.toNat ((0 : Int), (false, (0 : Int)))).1, (false, (0 : Int))))) then (some (y_3.2 == (0 : Int))) else (some false)) else (some false)) else (some false)) else none)))))
theorem F6_ok (n : Nat) (r_Rooms : List (Int × Bool × Int)) (handle : Int) (r : Bool) (h : F6 n r_Rooms handle = some r) : PureC Try.prog 6 [(.st (.arr 16 (.st (.pair (.int .i64) (.pair .bool (.int .i64)))) r_Rooms)), (.int .i64 handle)] (.bool r) [] := by
  refine PureC.mkS Try.func6 rfl rfl ?_
  intro w0 fz0 hfz
  replace h : ((F23 n r_Rooms handle).bind fun y_2 => ((F24 n r_Rooms handle).bind fun y_3 => ((F25 n r_Rooms handle).bind fun y_4 => (bif (y_4.2 != (0 : Int)) then (bif (y_2.1 == (0 : Int)) then (bif (y_2.2 == y_4.2) then (bif (Sh.beq (.st (.arr 16 (.st (.pair (.int .i64) (.pair .bool (.int .i64)))))) y_3.1 (List.replicate 16 ((0 : Int), (false, (0 : Int))))) then (F6_j2 n (y_3.2 == y_4.2)) else (F6_j2 n false)) else (F6_j2 n false)) else (F6_j2 n false)) else (bif inb y_4.1 16 then (bif (y_2.1 == (r_Rooms.getD y_4.1.toNat ((0 : Int), (false, (0 : Int)))).2.2) then (bif (y_2.2 == (0 : Int)) then (bif (Sh.beq (.st (.arr 16 (.st (.pair (.int .i64) (.pair .bool (.int .i64)))))) y_3.1 (r_Rooms.set y_4.1.toNat ((r_Rooms.getD y_4.1.toNat ((0 : Int), (false, (0 : Int)))).1, (false, (0 : Int))))) then (some (y_3.2 == (0 : Int))) else (some false)) else (some false)) else (some false)) else none))))) = some r := h
  refine TS.seq ?_
  have hq : (True) ∧ ((True) ∧ (True)) := ⟨trivial, ⟨trivial, trivial⟩⟩
  refine TS.reg [] ?_ ?_
  · apply prop_of ?_ hq
    kernel_rfl
  refine XS.then ?_
  refine TS.seq ?_
  obtain ⟨y_2, hx1, h⟩ := bind_some' h
  have hq : (True) ∧ ((True) ∧ ((PureC Try.prog 23 [(.st (.arr 16 (.st (.pair (.int .i64) (.pair .bool (.int .i64)))) r_Rooms)), (.int .i64 handle)] (.tup (.cons (.int .i64 y_2.1) (.cons (.int .i64 y_2.2) .nil))) []) ∧ ((True) ∧ ((True) ∧ ((True) ∧ ((True) ∧ ((True) ∧ (True)))))))) := ⟨trivial, ⟨trivial, ⟨F23_ok n r_Rooms handle y_2 hx1, ⟨trivial, ⟨trivial, ⟨trivial, ⟨trivial, ⟨trivial, trivial⟩⟩⟩⟩⟩⟩⟩⟩
  refine TS.reg [.none, .none, (.call (.tup (.cons (.int .i64 y_2.1) (.cons (.int .i64 y_2.2) .nil))) [])] ?_ ?_
  · apply prop_of ?_ hq
    kernel_rfl
  refine XS.then ?_
  refine TS.seq ?_
  obtain ⟨y_3, hx2, h⟩ := bind_some' h
  have hq : (True) ∧ ((True) ∧ ((PureC Try.prog 24 [(.st (.arr 16 (.st (.pair (.int .i64) (.pair .bool (.int .i64)))) r_Rooms)), (.int .i64 handle)] (.tup (.cons (.st (.arr 16 (.st (.pair (.int .i64) (.pair .bool (.int .i64)))) y_3.1)) (.cons (.int .i64 y_3.2) .nil))) []) ∧ ((True) ∧ ((True) ∧ ((True) ∧ ((True) ∧ ((True) ∧ ((True) ∧ (True))))))))) := ⟨trivial, ⟨trivial, ⟨F24_ok n r_Rooms handle y_3 hx2, ⟨trivial, ⟨trivial, ⟨trivial, ⟨trivial, ⟨trivial, ⟨trivial, trivial⟩⟩⟩⟩⟩⟩⟩⟩⟩
  refine TS.reg [.none, .none, (.call (.tup (.cons (.st (.arr 16 (.st (.pair (.int .i64) (.pair .bool (.int .i64)))) y_3.1)) (.cons (.int .i64 y_3.2) .nil))) [])] ?_ ?_
  · apply prop_of ?_ hq
    kernel_rfl
  refine XS.then ?_
  refine TS.seq ?_
  obtain ⟨y_4, hx3, h⟩ := bind_some' h
  have hq : (True) ∧ ((True) ∧ ((PureC Try.prog 25 [(.st (.arr 16 (.st (.pair (.int .i64) (.pair .bool (.int .i64)))) r_Rooms)), (.int .i64 handle)] (.tup (.cons (.int .i64 y_4.1) (.cons (.int .i64 y_4.2) .nil))) []) ∧ ((True) ∧ ((True) ∧ ((True) ∧ ((True) ∧ ((True) ∧ (True)))))))) := ⟨trivial, ⟨trivial, ⟨F25_ok n r_Rooms handle y_4 hx3, ⟨trivial, ⟨trivial, ⟨trivial, ⟨trivial, ⟨trivial, trivial⟩⟩⟩⟩⟩⟩⟩⟩
  refine TS.reg [.none, .none, (.call (.tup (.cons (.int .i64 y_4.1) (.cons (.int .i64 y_4.2) .nil))) [])] ?_ ?_
  · apply prop_of ?_ hq
    kernel_rfl
  refine XS.then ?_
  refine TS.seq ?_
  refine TS.seq ?_
  have hq : (True) ∧ ((True) ∧ (True)) := ⟨trivial, ⟨trivial, trivial⟩⟩
  refine TS.reg [] ?_ ?_
  · apply prop_of ?_ hq
    kernel_rfl
  refine XS.then ?_
  rcases bif_some h with ⟨c4, h⟩ | ⟨c5, h⟩
  · refine TS.cond (y_4.2 != (0 : Int)) ?_ (fun e => ?_) (fun e => by rw [c4] at e; cases e)
    · kernel_rfl
    refine TS.seq ?_
    refine TS.cut (D := Bool) (fun d => match d with | x => (mkTs 79 [(4, (.bool x))], [])) (fun d => F6_j2 n d = some r) ?_ ?_
    · rintro x h
      replace h : (some x) = some r := h
      refine XS.then ?_
      refine TS.ret ?_
      refine XS.passR ?_
      obtain rfl : x = r := Option.some.inj h
      exact XS.fin [] ((True) ∧ (True)) (by kernel_rfl) ⟨trivial, trivial⟩
    · rcases bif_some h with ⟨c6, h⟩ | ⟨c7, h⟩
      · rcases bif_some h with ⟨c8, h⟩ | ⟨c9, h⟩
        · rcases bif_some h with ⟨c10, h⟩ | ⟨c11, h⟩
          · have hq : (True) ∧ ((True) ∧ (((True) ∧ (y_2.1 == (0 : Int)) = true) ∧ ((True) ∧ ((True) ∧ ((True) ∧ ((True) ∧ (((True) ∧ (y_2.2 == y_4.2) = true) ∧ ((True) ∧ ((True) ∧ ((True) ∧ ((True) ∧ (((True) ∧ (Sh.beq (.st (.arr 16 (.st (.pair (.int .i64) (.pair .bool (.int .i64)))))) y_3.1 (List.replicate 16 ((0 : Int), (false, (0 : Int))))) = true) ∧ ((True) ∧ ((True) ∧ ((True) ∧ ((True) ∧ ((True) ∧ (True)))))))))))))))))) := ⟨trivial, ⟨trivial, ⟨⟨trivial, c6⟩, ⟨trivial, ⟨trivial, ⟨trivial, ⟨trivial, ⟨⟨trivial, c8⟩, ⟨trivial, ⟨trivial, ⟨trivial, ⟨trivial, ⟨⟨trivial, c10⟩, ⟨trivial, ⟨trivial, ⟨trivial, ⟨trivial, ⟨trivial, trivial⟩⟩⟩⟩⟩⟩⟩⟩⟩⟩⟩⟩⟩⟩⟩⟩⟩⟩
            refine TS.reg [.none, .none, .dec true, .none, .none, .none, .none, .dec true, .none, .none, .none, .none, .dec true] ?_ ?_
            · apply prop_of ?_ hq
              kernel_rfl
            refine XS.reAny [] (mkMask 79 [4]) (y_3.2 == y_4.2) h ?_
            kernel_rfl
          · have hq : (True) ∧ ((True) ∧ (((True) ∧ (y_2.1 == (0 : Int)) = true) ∧ ((True) ∧ ((True) ∧ ((True) ∧ ((True) ∧ (((True) ∧ (y_2.2 == y_4.2) = true) ∧ ((True) ∧ ((True) ∧ ((True) ∧ ((True) ∧ (((True) ∧ (Sh.beq (.st (.arr 16 (.st (.pair (.int .i64) (.pair .bool (.int .i64)))))) y_3.1 (List.replicate 16 ((0 : Int), (false, (0 : Int))))) = false) ∧ ((True) ∧ ((True) ∧ (True))))))))))))))) := ⟨trivial, ⟨trivial, ⟨⟨trivial, c6⟩, ⟨trivial, ⟨trivial, ⟨trivial, ⟨trivial, ⟨⟨trivial, c8⟩, ⟨trivial, ⟨trivial, ⟨trivial, ⟨trivial, ⟨⟨trivial, c11⟩, ⟨trivial, ⟨trivial, trivial⟩⟩⟩⟩⟩⟩⟩⟩⟩⟩⟩⟩⟩⟩⟩
            refine TS.reg [.none, .none, .dec true, .none, .none, .none, .none, .dec true, .none, .none, .none, .none, .dec false] ?_ ?_
            · apply prop_of ?_ hq
              kernel_rfl
            refine XS.reAny [] (mkMask 79 [4]) false h ?_
            kernel_rfl
        · have hq : (True) ∧ ((True) ∧ (((True) ∧ (y_2.1 == (0 : Int)) = true) ∧ ((True) ∧ ((True) ∧ ((True) ∧ ((True) ∧ (((True) ∧ (y_2.2 == y_4.2) = false) ∧ ((True) ∧ ((True) ∧ ((True) ∧ ((True) ∧ (True)))))))))))) := ⟨trivial, ⟨trivial, ⟨⟨trivial, c6⟩, ⟨trivial, ⟨trivial, ⟨trivial, ⟨trivial, ⟨⟨trivial, c9⟩, ⟨trivial, ⟨trivial, ⟨trivial, ⟨trivial, trivial⟩⟩⟩⟩⟩⟩⟩⟩⟩⟩⟩⟩
          refine TS.reg [.none, .none, .dec true, .none, .none, .none, .none, .dec false] ?_ ?_
          · apply prop_of ?_ hq
            kernel_rfl
          refine XS.reAny [] (mkMask 79 [4]) false h ?_
          kernel_rfl
      · have hq : (True) ∧ ((True) ∧ (((True) ∧ (y_2.1 == (0 : Int)) = false) ∧ ((True) ∧ ((True) ∧ ((True) ∧ ((True) ∧ ((True) ∧ ((True) ∧ (True))))))))) := ⟨trivial, ⟨trivial, ⟨⟨trivial, c7⟩, ⟨trivial, ⟨trivial, ⟨trivial, ⟨trivial, ⟨trivial, ⟨trivial, trivial⟩⟩⟩⟩⟩⟩⟩⟩⟩
        refine TS.reg [.none, .none, .dec false] ?_ ?_
        · apply prop_of ?_ hq
          kernel_rfl
        refine XS.reAny [] (mkMask 79 [4]) false h ?_
        kernel_rfl
  · refine TS.cond (y_4.2 != (0 : Int)) ?_ (fun e => by rw [c5] at e; cases e) (fun e => ?_)
    · kernel_rfl
    refine TS.skip ?_
    refine XS.then ?_
    refine TS.seq ?_
    obtain ⟨t12, h⟩ := test_some h
    have hq : (True) ∧ ((True) ∧ ((inR y_4.1 16) ∧ ((True) ∧ ((y_4.1.toNat < 16 ∧ (True)) ∧ ((True) ∧ (True)))))) := ⟨trivial, ⟨trivial, ⟨inb_ok t12, ⟨trivial, ⟨⟨inR_lt (inb_ok t12), trivial⟩, ⟨trivial, trivial⟩⟩⟩⟩⟩⟩
    refine TS.reg [] ?_ ?_
    · apply prop_of ?_ hq
      kernel_rfl
    refine XS.then ?_
    refine TS.seq ?_
    have hq : (True) ∧ ((True) ∧ ((True) ∧ ((inR y_4.1 16) ∧ ((True) ∧ ((y_4.1.toNat < 16 ∧ (True)) ∧ (((True) ∧ (True)) ∧ ((True) ∧ ((inR y_4.1 16) ∧ ((y_4.1.toNat < 16 ∧ (True)) ∧ (True)))))))))) := ⟨trivial, ⟨trivial, ⟨trivial, ⟨inb_ok t12, ⟨trivial, ⟨⟨inR_lt (inb_ok t12), trivial⟩, ⟨⟨trivial, trivial⟩, ⟨trivial, ⟨inb_ok t12, ⟨⟨inR_lt (inb_ok t12), trivial⟩, trivial⟩⟩⟩⟩⟩⟩⟩⟩⟩⟩
    refine TS.reg [] ?_ ?_
    · apply prop_of ?_ hq
      kernel_rfl
    refine XS.then ?_
    refine TS.seq ?_
    rcases bif_some h with ⟨c13, h⟩ | ⟨c14, h⟩
    · rcases bif_some h with ⟨c15, h⟩ | ⟨c16, h⟩
      · rcases bif_some h with ⟨c17, h⟩ | ⟨c18, h⟩
        · have hq : (True) ∧ ((True) ∧ ((True) ∧ (((True) ∧ (y_2.1 == (r_Rooms.getD y_4.1.toNat ((0 : Int), (false, (0 : Int)))).2.2) = true) ∧ ((True) ∧ ((True) ∧ ((True) ∧ (((True) ∧ (y_2.2 == (0 : Int)) = true) ∧ ((True) ∧ ((True) ∧ ((True) ∧ ((True) ∧ (((True) ∧ (Sh.beq (.st (.arr 16 (.st (.pair (.int .i64) (.pair .bool (.int .i64)))))) y_3.1 (r_Rooms.set y_4.1.toNat ((r_Rooms.getD y_4.1.toNat ((0 : Int), (false, (0 : Int)))).1, (false, (0 : Int))))) = true) ∧ ((True) ∧ ((True) ∧ ((True) ∧ ((True) ∧ (True))))))))))))))))) := ⟨trivial, ⟨trivial, ⟨trivial, ⟨⟨trivial, c13⟩, ⟨trivial, ⟨trivial, ⟨trivial, ⟨⟨trivial, c15⟩, ⟨trivial, ⟨trivial, ⟨trivial, ⟨trivial, ⟨⟨trivial, c17⟩, ⟨trivial, ⟨trivial, ⟨trivial, ⟨trivial, trivial⟩⟩⟩⟩⟩⟩⟩⟩⟩⟩⟩⟩⟩⟩⟩⟩⟩
          refine TS.reg [.none, .none, .none, .dec true, .none, .none, .none, .dec true, .none, .none, .none, .none, .dec true] ?_ ?_
          · apply prop_of ?_ hq
            kernel_rfl
          refine XS.then ?_
          refine TS.ret ?_
          obtain rfl : (y_3.2 == (0 : Int)) = r := Option.some.inj h
          exact XS.fin [] ((True) ∧ (True)) (by kernel_rfl) ⟨trivial, trivial⟩
        · have hq : (True) ∧ ((True) ∧ ((True) ∧ (((True) ∧ (y_2.1 == (r_Rooms.getD y_4.1.toNat ((0 : Int), (false, (0 : Int)))).2.2) = true) ∧ ((True) ∧ ((True) ∧ ((True) ∧ (((True) ∧ (y_2.2 == (0 : Int)) = true) ∧ ((True) ∧ ((True) ∧ ((True) ∧ ((True) ∧ (((True) ∧ (Sh.beq (.st (.arr 16 (.st (.pair (.int .i64) (.pair .bool (.int .i64)))))) y_3.1 (r_Rooms.set y_4.1.toNat ((r_Rooms.getD y_4.1.toNat ((0 : Int), (false, (0 : Int)))).1, (false, (0 : Int))))) = false) ∧ ((True) ∧ ((True) ∧ (True))))))))))))))) := ⟨trivial, ⟨trivial, ⟨trivial, ⟨⟨trivial, c13⟩, ⟨trivial, ⟨trivial, ⟨trivial, ⟨⟨trivial, c15⟩, ⟨trivial, ⟨trivial, ⟨trivial, ⟨trivial, ⟨⟨trivial, c18⟩, ⟨trivial, ⟨trivial, trivial⟩⟩⟩⟩⟩⟩⟩⟩⟩⟩⟩⟩⟩⟩⟩
          refine TS.reg [.none, .none, .none, .dec true, .none, .none, .none, .dec true, .none, .none, .none, .none, .dec false] ?_ ?_
          · apply prop_of ?_ hq
            kernel_rfl
          refine XS.then ?_
          refine TS.ret ?_
          obtain rfl : false = r := Option.some.inj h
          exact XS.fin [] ((True) ∧ (True)) (by kernel_rfl) ⟨trivial, trivial⟩
      · have hq : (True) ∧ ((True) ∧ ((True) ∧ (((True) ∧ (y_2.1 == (r_Rooms.getD y_4.1.toNat ((0 : Int), (false, (0 : Int)))).2.2) = true) ∧ ((True) ∧ ((True) ∧ ((True) ∧ (((True) ∧ (y_2.2 == (0 : Int)) = false) ∧ ((True) ∧ ((True) ∧ ((True) ∧ ((True) ∧ (True)))))))))))) := ⟨trivial, ⟨trivial, ⟨trivial, ⟨⟨trivial, c13⟩, ⟨trivial, ⟨trivial, ⟨trivial, ⟨⟨trivial, c16⟩, ⟨trivial, ⟨trivial, ⟨trivial, ⟨trivial, trivial⟩⟩⟩⟩⟩⟩⟩⟩⟩⟩⟩⟩
        refine TS.reg [.none, .none, .none, .dec true, .none, .none, .none, .dec false] ?_ ?_
        · apply prop_of ?_ hq
          kernel_rfl
        refine XS.then ?_
        refine TS.ret ?_
        obtain rfl : false = r := Option.some.inj h
        exact XS.fin [] ((True) ∧ (True)) (by kernel_rfl) ⟨trivial, trivial⟩
    · have hq : (True) ∧ ((True) ∧ ((True) ∧ (((True) ∧ (y_2.1 == (r_Rooms.getD y_4.1.toNat ((0 : Int), (false, (0 : Int)))).2.2) = false) ∧ ((True) ∧ ((True) ∧ ((True) ∧ ((True) ∧ ((True) ∧ ((True) ∧ (True)))))))))) := ⟨trivial, ⟨trivial, ⟨trivial, ⟨⟨trivial, c14⟩, ⟨trivial, ⟨trivial, ⟨trivial, ⟨trivial, ⟨trivial, ⟨trivial, trivial⟩⟩⟩⟩⟩⟩⟩⟩⟩⟩
      refine TS.reg [.none, .none, .none, .dec false] ?_ ?_
      · apply prop_of ?_ hq
        kernel_rfl
      refine XS.then ?_
      refine TS.ret ?_
      obtain rfl : false = r := Option.some.inj h
      exact XS.fin [] ((True) ∧ (True)) (by kernel_rfl) ⟨trivial, trivial⟩
end Go.Proofs.Ytbeilpecdimheaa
