/- Functions of the program, as functions of values. -/
import Derived.Test.YtmcjcioifgaihaaFyx1
import Derived.Test.YtmcjcioifgaihaaChecked
namespace Go.Proofs.Ytmcjcioifgaihaa
open Go Go.RowKit
set_option linter.unusedVariables false
set_option maxRecDepth 100000

/-! plugtree/plugref.PortDone -/
def F94 (n : Nat) (p_Status : Int) (p_Change : Int) (on : Bool) (feature : Int) : Option (Int × Int × Int) := (bif on then (bif (feature == (8 : Int)) then (some ((if (256 : Int) > p_Status then (256 : Int) else p_Status), p_Change, (0 : Int))) else (bif (feature == (4 : Int)) then (bif (decide (p_Status > (256 : Int))) then (some ((273 : Int), p_Change, (0 : Int))) else (bif (!on) then (bif (feature == (1 : Int)) then (bif (p_Status == (259 : Int)) then (some ((257 : Int), p_Change, (0 : Int))) else (some (p_Status, p_Change, (0 : Int)))) else (bif (feature == (16 : Int)) then ((F155 n p_Change (1 : Int)).bind fun y_4 => (some (p_Status, y_4, (0 : Int)))) else (bif (feature == (17 : Int)) then ((F155 n p_Change (2 : Int)).bind fun y_5 => (some (p_Status, y_5, (0 : Int)))) else (bif (feature == (20 : Int)) then ((F155 n p_Change (16 : Int)).bind fun y_6 => (some (p_Status, y_6, (0 : Int)))) else (some (p_Status, p_Change, (8 : Int))))))) else (some (p_Status, p_Change, (8 : Int))))) else (bif (!on) then (bif (feature == (1 : Int)) then (bif (p_Status == (259 : Int)) then (some ((257 : Int), p_Change, (0 : Int))) else (some (p_Status, p_Change, (0 : Int)))) else (bif (feature == (16 : Int)) then ((F155 n p_Change (1 : Int)).bind fun y_7 => (some (p_Status, y_7, (0 : Int)))) else (bif (feature == (17 : Int)) then ((F155 n p_Change (2 : Int)).bind fun y_8 => (some (p_Status, y_8, (0 : Int)))) else (bif (feature == (20 : Int)) then ((F155 n p_Change (16 : Int)).bind fun y_9 => (some (p_Status, y_9, (0 : Int)))) else (some (p_Status, p_Change, (8 : Int))))))) else (some (p_Status, p_Change, (8 : Int)))))) else (bif (!on) then (bif (feature == (8 : Int)) then (some ((0 : Int), p_Change, (0 : Int))) else (bif (feature == (1 : Int)) then (bif (p_Status == (259 : Int)) then (some ((257 : Int), p_Change, (0 : Int))) else (some (p_Status, p_Change, (0 : Int)))) else (bif (feature == (16 : Int)) then ((F155 n p_Change (1 : Int)).bind fun y_10 => (some (p_Status, y_10, (0 : Int)))) else (bif (feature == (17 : Int)) then ((F155 n p_Change (2 : Int)).bind fun y_11 => (some (p_Status, y_11, (0 : Int)))) else (bif (feature == (20 : Int)) then ((F155 n p_Change (16 : Int)).bind fun y_12 => (some (p_Status, y_12, (0 : Int)))) else (some (p_Status, p_Change, (8 : Int)))))))) else (some (p_Status, p_Change, (8 : Int)))))
theorem F94_ok (n : Nat) (p_Status : Int) (p_Change : Int) (on : Bool) (feature : Int) (r : Int × Int × Int) (h : F94 n p_Status p_Change on feature = some r) : PureC Try.prog 94 [(.st (.cons (.int .i64 p_Status) (.int .i64 p_Change))), (.bool on), (.int .i64 feature)] (.tup (.cons (.st (.cons (.int .i64 r.1) (.int .i64 r.2.1))) (.cons (.int .i64 r.2.2) .nil))) [] := by
  refine PureC.mkS Try.func94 rfl rfl ?_
  intro w0 fz0 hfz
  replace h : (bif on then (bif (feature == (8 : Int)) then (some ((if (256 : Int) > p_Status then (256 : Int) else p_Status), p_Change, (0 : Int))) else (bif (feature == (4 : Int)) then (bif (decide (p_Status > (256 : Int))) then (some ((273 : Int), p_Change, (0 : Int))) else (bif (!on) then (bif (feature == (1 : Int)) then (bif (p_Status == (259 : Int)) then (some ((257 : Int), p_Change, (0 : Int))) else (some (p_Status, p_Change, (0 : Int)))) else (bif (feature == (16 : Int)) then ((F155 n p_Change (1 : Int)).bind fun y_4 => (some (p_Status, y_4, (0 : Int)))) else (bif (feature == (17 : Int)) then ((F155 n p_Change (2 : Int)).bind fun y_5 => (some (p_Status, y_5, (0 : Int)))) else (bif (feature == (20 : Int)) then ((F155 n p_Change (16 : Int)).bind fun y_6 => (some (p_Status, y_6, (0 : Int)))) else (some (p_Status, p_Change, (8 : Int))))))) else (some (p_Status, p_Change, (8 : Int))))) else (bif (!on) then (bif (feature == (1 : Int)) then (bif (p_Status == (259 : Int)) then (some ((257 : Int), p_Change, (0 : Int))) else (some (p_Status, p_Change, (0 : Int)))) else (bif (feature == (16 : Int)) then ((F155 n p_Change (1 : Int)).bind fun y_7 => (some (p_Status, y_7, (0 : Int)))) else (bif (feature == (17 : Int)) then ((F155 n p_Change (2 : Int)).bind fun y_8 => (some (p_Status, y_8, (0 : Int)))) else (bif (feature == (20 : Int)) then ((F155 n p_Change (16 : Int)).bind fun y_9 => (some (p_Status, y_9, (0 : Int)))) else (some (p_Status, p_Change, (8 : Int))))))) else (some (p_Status, p_Change, (8 : Int)))))) else (bif (!on) then (bif (feature == (8 : Int)) then (some ((0 : Int), p_Change, (0 : Int))) else (bif (feature == (1 : Int)) then (bif (p_Status == (259 : Int)) then (some ((257 : Int), p_Change, (0 : Int))) else (some (p_Status, p_Change, (0 : Int)))) else (bif (feature == (16 : Int)) then ((F155 n p_Change (1 : Int)).bind fun y_10 => (some (p_Status, y_10, (0 : Int)))) else (bif (feature == (17 : Int)) then ((F155 n p_Change (2 : Int)).bind fun y_11 => (some (p_Status, y_11, (0 : Int)))) else (bif (feature == (20 : Int)) then ((F155 n p_Change (16 : Int)).bind fun y_12 => (some (p_Status, y_12, (0 : Int)))) else (some (p_Status, p_Change, (8 : Int)))))))) else (some (p_Status, p_Change, (8 : Int))))) = some r := h
  refine TS.seq ?_
  have hq : (True) ∧ ((True) ∧ ((True) ∧ (True))) := ⟨trivial, ⟨trivial, ⟨trivial, trivial⟩⟩⟩
  refine TS.reg [] ?_ ?_
  · apply prop_of ?_ hq
    kernel_rfl
  refine XS.then ?_
  refine TS.seq ?_
  refine TS.block ?_
  refine TS.seq ?_
  rcases bif_some h with ⟨c1, h⟩ | ⟨c2, h⟩
  · have hq : (True) ∧ (((True) ∧ on = true) ∧ ((True) ∧ ((True) ∧ ((True) ∧ ((True) ∧ (True)))))) := ⟨trivial, ⟨⟨trivial, c1⟩, ⟨trivial, ⟨trivial, ⟨trivial, ⟨trivial, trivial⟩⟩⟩⟩⟩⟩
    refine TS.reg [.none, .dec true] ?_ ?_
    · apply prop_of ?_ hq
      kernel_rfl
    refine XS.then ?_
    rcases bif_some h with ⟨c3, h⟩ | ⟨c4, h⟩
    · refine TS.cond (feature == (8 : Int)) ?_ (fun hcz => ?_) (fun hcz => by rw [c3] at hcz; cases hcz)
      · kernel_rfl
      have hq : (True) ∧ ((True) ∧ ((True) ∧ ((True) ∧ ((True) ∧ (True))))) := ⟨trivial, ⟨trivial, ⟨trivial, ⟨trivial, ⟨trivial, trivial⟩⟩⟩⟩⟩
      refine TS.reg [] ?_ ?_
      · apply prop_of ?_ hq
        kernel_rfl
      refine XS.blockEnd ?_
      refine XS.then ?_
      refine TS.seq ?_
      have hq : (True) ∧ ((True) ∧ ((True) ∧ (True))) := ⟨trivial, ⟨trivial, ⟨trivial, trivial⟩⟩⟩
      refine TS.reg [] ?_ ?_
      · apply prop_of ?_ hq
        kernel_rfl
      refine XS.then ?_
      refine TS.ret ?_
      obtain rfl : ((if (256 : Int) > p_Status then (256 : Int) else p_Status), p_Change, (0 : Int)) = r := Option.some.inj h
      exact XS.fin [] ((True) ∧ ((True) ∧ (True))) (by kernel_rfl) ⟨trivial, ⟨trivial, trivial⟩⟩
    · refine TS.cond (feature == (8 : Int)) ?_ (fun hcz => by rw [c4] at hcz; cases hcz) (fun hcz => ?_)
      · kernel_rfl
      refine TS.seq ?_
      rcases bif_some h with ⟨c5, h⟩ | ⟨c6, h⟩
      · have hq : (True) ∧ (((True) ∧ on = true) ∧ ((True) ∧ ((True) ∧ ((True) ∧ (((True) ∧ (feature == (4 : Int)) = true) ∧ ((True) ∧ ((True) ∧ ((True) ∧ ((True) ∧ ((True) ∧ (True))))))))))) := ⟨trivial, ⟨⟨trivial, c1⟩, ⟨trivial, ⟨trivial, ⟨trivial, ⟨⟨trivial, c5⟩, ⟨trivial, ⟨trivial, ⟨trivial, ⟨trivial, ⟨trivial, trivial⟩⟩⟩⟩⟩⟩⟩⟩⟩⟩⟩
        refine TS.reg [.none, .dec true, .none, .none, .none, .dec true] ?_ ?_
        · apply prop_of ?_ hq
          kernel_rfl
        refine XS.then ?_
        rcases bif_some h with ⟨c7, h⟩ | ⟨c8, h⟩
        · refine TS.cond (decide (p_Status > (256 : Int))) ?_ (fun hcz => ?_) (fun hcz => by rw [c7] at hcz; cases hcz)
          · kernel_rfl
          have hq : (True) ∧ ((True) ∧ (True)) := ⟨trivial, ⟨trivial, trivial⟩⟩
          refine TS.reg [] ?_ ?_
          · apply prop_of ?_ hq
            kernel_rfl
          refine XS.blockEnd ?_
          refine XS.then ?_
          refine TS.seq ?_
          have hq : (True) ∧ ((True) ∧ ((True) ∧ (True))) := ⟨trivial, ⟨trivial, ⟨trivial, trivial⟩⟩⟩
          refine TS.reg [] ?_ ?_
          · apply prop_of ?_ hq
            kernel_rfl
          refine XS.then ?_
          refine TS.ret ?_
          obtain rfl : ((273 : Int), p_Change, (0 : Int)) = r := Option.some.inj h
          exact XS.fin [] ((True) ∧ ((True) ∧ (True))) (by kernel_rfl) ⟨trivial, ⟨trivial, trivial⟩⟩
        · refine TS.cond (decide (p_Status > (256 : Int))) ?_ (fun hcz => by rw [c8] at hcz; cases hcz) (fun hcz => ?_)
          · kernel_rfl
          refine TS.seq ?_
          rcases bif_some h with ⟨c9, h⟩ | ⟨c10, h⟩
          · have hq : (True) ∧ ((True) ∧ (((True) ∧ (!on) = true) ∧ ((True) ∧ ((True) ∧ ((True) ∧ ((True) ∧ (True))))))) := ⟨trivial, ⟨trivial, ⟨⟨trivial, c9⟩, ⟨trivial, ⟨trivial, ⟨trivial, ⟨trivial, trivial⟩⟩⟩⟩⟩⟩⟩
            refine TS.reg [.none, .none, .dec true] ?_ ?_
            · apply prop_of ?_ hq
              kernel_rfl
            refine XS.then ?_
            refine TS.cond (feature == (8 : Int)) ?_ (fun hcz => by rw [c4] at hcz; cases hcz) (fun hcz => ?_)
            · kernel_rfl
            refine TS.seq ?_
            have hq : (True) ∧ ((True) ∧ (((True) ∧ (!on) = true) ∧ ((True) ∧ ((True) ∧ ((True) ∧ ((True) ∧ (True))))))) := ⟨trivial, ⟨trivial, ⟨⟨trivial, c9⟩, ⟨trivial, ⟨trivial, ⟨trivial, ⟨trivial, trivial⟩⟩⟩⟩⟩⟩⟩
            refine TS.reg [.none, .none, .dec true] ?_ ?_
            · apply prop_of ?_ hq
              kernel_rfl
            refine XS.then ?_
            rcases bif_some h with ⟨c11, h⟩ | ⟨c12, h⟩
            · refine TS.cond (feature == (1 : Int)) ?_ (fun hcz => ?_) (fun hcz => by rw [c11] at hcz; cases hcz)
              · kernel_rfl
              refine TS.seq ?_
              have hq : (True) ∧ ((True) ∧ ((True) ∧ (True))) := ⟨trivial, ⟨trivial, ⟨trivial, trivial⟩⟩⟩
              refine TS.reg [] ?_ ?_
              · apply prop_of ?_ hq
                kernel_rfl
              refine XS.then ?_
              rcases bif_some h with ⟨c13, h⟩ | ⟨c14, h⟩
              · refine TS.cond (p_Status == (259 : Int)) ?_ (fun hcz => ?_) (fun hcz => by rw [c13] at hcz; cases hcz)
                · kernel_rfl
                have hq : (True) ∧ ((True) ∧ (True)) := ⟨trivial, ⟨trivial, trivial⟩⟩
                refine TS.reg [] ?_ ?_
                · apply prop_of ?_ hq
                  kernel_rfl
                refine XS.blockEnd ?_
                refine XS.then ?_
                refine TS.seq ?_
                have hq : (True) ∧ ((True) ∧ ((True) ∧ (True))) := ⟨trivial, ⟨trivial, ⟨trivial, trivial⟩⟩⟩
                refine TS.reg [] ?_ ?_
                · apply prop_of ?_ hq
                  kernel_rfl
                refine XS.then ?_
                refine TS.ret ?_
                obtain rfl : ((257 : Int), p_Change, (0 : Int)) = r := Option.some.inj h
                exact XS.fin [] ((True) ∧ ((True) ∧ (True))) (by kernel_rfl) ⟨trivial, ⟨trivial, trivial⟩⟩
              · refine TS.cond (p_Status == (259 : Int)) ?_ (fun hcz => by rw [c14] at hcz; cases hcz) (fun hcz => ?_)
                · kernel_rfl
                refine TS.skip ?_
                refine XS.blockEnd ?_
                refine XS.then ?_
                refine TS.seq ?_
                have hq : (True) ∧ ((True) ∧ ((True) ∧ (True))) := ⟨trivial, ⟨trivial, ⟨trivial, trivial⟩⟩⟩
                refine TS.reg [] ?_ ?_
                · apply prop_of ?_ hq
                  kernel_rfl
                refine XS.then ?_
                refine TS.ret ?_
                obtain rfl : (p_Status, p_Change, (0 : Int)) = r := Option.some.inj h
                exact XS.fin [] ((True) ∧ ((True) ∧ (True))) (by kernel_rfl) ⟨trivial, ⟨trivial, trivial⟩⟩
            · refine TS.cond (feature == (1 : Int)) ?_ (fun hcz => by rw [c12] at hcz; cases hcz) (fun hcz => ?_)
              · kernel_rfl
              refine TS.seq ?_
              have hq : (True) ∧ ((True) ∧ (((True) ∧ (!on) = true) ∧ ((True) ∧ ((True) ∧ ((True) ∧ ((True) ∧ (True))))))) := ⟨trivial, ⟨trivial, ⟨⟨trivial, c9⟩, ⟨trivial, ⟨trivial, ⟨trivial, ⟨trivial, trivial⟩⟩⟩⟩⟩⟩⟩
              refine TS.reg [.none, .none, .dec true] ?_ ?_
              · apply prop_of ?_ hq
                kernel_rfl
              refine XS.then ?_
              rcases bif_some h with ⟨c15, h⟩ | ⟨c16, h⟩
              · refine TS.cond (feature == (16 : Int)) ?_ (fun hcz => ?_) (fun hcz => by rw [c15] at hcz; cases hcz)
                · kernel_rfl
                obtain ⟨y_4, hx17, h⟩ := bind_some' h
                have hq : (True) ∧ ((True) ∧ ((PureC Try.prog 155 [(.int .i64 p_Change), (.int .i64 (1 : Int))] (.int .i64 y_4) []) ∧ ((True) ∧ ((True) ∧ (True))))) := ⟨trivial, ⟨trivial, ⟨F155_ok n p_Change (1 : Int) y_4 hx17, ⟨trivial, ⟨trivial, trivial⟩⟩⟩⟩⟩
                refine TS.reg [.none, .none, (.call (.int .i64 y_4) [])] ?_ ?_
                · apply prop_of ?_ hq
                  kernel_rfl
                refine XS.blockEnd ?_
                refine XS.then ?_
                refine TS.seq ?_
                have hq : (True) ∧ ((True) ∧ ((True) ∧ (True))) := ⟨trivial, ⟨trivial, ⟨trivial, trivial⟩⟩⟩
                refine TS.reg [] ?_ ?_
                · apply prop_of ?_ hq
                  kernel_rfl
                refine XS.then ?_
                refine TS.ret ?_
                obtain rfl : (p_Status, y_4, (0 : Int)) = r := Option.some.inj h
                exact XS.fin [] ((True) ∧ ((True) ∧ (True))) (by kernel_rfl) ⟨trivial, ⟨trivial, trivial⟩⟩
              · refine TS.cond (feature == (16 : Int)) ?_ (fun hcz => by rw [c16] at hcz; cases hcz) (fun hcz => ?_)
                · kernel_rfl
                refine TS.seq ?_
                have hq : (True) ∧ ((True) ∧ (((True) ∧ (!on) = true) ∧ ((True) ∧ ((True) ∧ ((True) ∧ ((True) ∧ (True))))))) := ⟨trivial, ⟨trivial, ⟨⟨trivial, c9⟩, ⟨trivial, ⟨trivial, ⟨trivial, ⟨trivial, trivial⟩⟩⟩⟩⟩⟩⟩
                refine TS.reg [.none, .none, .dec true] ?_ ?_
                · apply prop_of ?_ hq
                  kernel_rfl
                refine XS.then ?_
                rcases bif_some h with ⟨c18, h⟩ | ⟨c19, h⟩
                · refine TS.cond (feature == (17 : Int)) ?_ (fun hcz => ?_) (fun hcz => by rw [c18] at hcz; cases hcz)
                  · kernel_rfl
                  obtain ⟨y_5, hx20, h⟩ := bind_some' h
                  have hq : (True) ∧ ((True) ∧ ((PureC Try.prog 155 [(.int .i64 p_Change), (.int .i64 (2 : Int))] (.int .i64 y_5) []) ∧ ((True) ∧ ((True) ∧ (True))))) := ⟨trivial, ⟨trivial, ⟨F155_ok n p_Change (2 : Int) y_5 hx20, ⟨trivial, ⟨trivial, trivial⟩⟩⟩⟩⟩
                  refine TS.reg [.none, .none, (.call (.int .i64 y_5) [])] ?_ ?_
                  · apply prop_of ?_ hq
                    kernel_rfl
                  refine XS.blockEnd ?_
                  refine XS.then ?_
                  refine TS.seq ?_
                  have hq : (True) ∧ ((True) ∧ ((True) ∧ (True))) := ⟨trivial, ⟨trivial, ⟨trivial, trivial⟩⟩⟩
                  refine TS.reg [] ?_ ?_
                  · apply prop_of ?_ hq
                    kernel_rfl
                  refine XS.then ?_
                  refine TS.ret ?_
                  obtain rfl : (p_Status, y_5, (0 : Int)) = r := Option.some.inj h
                  exact XS.fin [] ((True) ∧ ((True) ∧ (True))) (by kernel_rfl) ⟨trivial, ⟨trivial, trivial⟩⟩
                · refine TS.cond (feature == (17 : Int)) ?_ (fun hcz => by rw [c19] at hcz; cases hcz) (fun hcz => ?_)
                  · kernel_rfl
                  refine TS.seq ?_
                  have hq : (True) ∧ ((True) ∧ (((True) ∧ (!on) = true) ∧ ((True) ∧ ((True) ∧ ((True) ∧ ((True) ∧ (True))))))) := ⟨trivial, ⟨trivial, ⟨⟨trivial, c9⟩, ⟨trivial, ⟨trivial, ⟨trivial, ⟨trivial, trivial⟩⟩⟩⟩⟩⟩⟩
                  refine TS.reg [.none, .none, .dec true] ?_ ?_
                  · apply prop_of ?_ hq
                    kernel_rfl
                  refine XS.then ?_
                  rcases bif_some h with ⟨c21, h⟩ | ⟨c22, h⟩
                  · refine TS.cond (feature == (20 : Int)) ?_ (fun hcz => ?_) (fun hcz => by rw [c21] at hcz; cases hcz)
                    · kernel_rfl
                    obtain ⟨y_6, hx23, h⟩ := bind_some' h
                    have hq : (True) ∧ ((True) ∧ ((PureC Try.prog 155 [(.int .i64 p_Change), (.int .i64 (16 : Int))] (.int .i64 y_6) []) ∧ ((True) ∧ ((True) ∧ (True))))) := ⟨trivial, ⟨trivial, ⟨F155_ok n p_Change (16 : Int) y_6 hx23, ⟨trivial, ⟨trivial, trivial⟩⟩⟩⟩⟩
                    refine TS.reg [.none, .none, (.call (.int .i64 y_6) [])] ?_ ?_
                    · apply prop_of ?_ hq
                      kernel_rfl
                    refine XS.blockEnd ?_
                    refine XS.then ?_
                    refine TS.seq ?_
                    have hq : (True) ∧ ((True) ∧ ((True) ∧ (True))) := ⟨trivial, ⟨trivial, ⟨trivial, trivial⟩⟩⟩
                    refine TS.reg [] ?_ ?_
                    · apply prop_of ?_ hq
                      kernel_rfl
                    refine XS.then ?_
                    refine TS.ret ?_
                    obtain rfl : (p_Status, y_6, (0 : Int)) = r := Option.some.inj h
                    exact XS.fin [] ((True) ∧ ((True) ∧ (True))) (by kernel_rfl) ⟨trivial, ⟨trivial, trivial⟩⟩
                  · refine TS.cond (feature == (20 : Int)) ?_ (fun hcz => by rw [c22] at hcz; cases hcz) (fun hcz => ?_)
                    · kernel_rfl
                    refine TS.seq ?_
                    have hq : (True) ∧ ((True) ∧ ((True) ∧ (True))) := ⟨trivial, ⟨trivial, ⟨trivial, trivial⟩⟩⟩
                    refine TS.reg [] ?_ ?_
                    · apply prop_of ?_ hq
                      kernel_rfl
                    refine XS.then ?_
                    refine TS.ret ?_
                    refine XS.blockRet ?_
                    refine XS.passR ?_
                    obtain rfl : (p_Status, p_Change, (8 : Int)) = r := Option.some.inj h
                    exact XS.fin [] ((True) ∧ ((True) ∧ (True))) (by kernel_rfl) ⟨trivial, ⟨trivial, trivial⟩⟩
          · have hq : (True) ∧ ((True) ∧ (((True) ∧ (!on) = false) ∧ ((True) ∧ ((True) ∧ (True))))) := ⟨trivial, ⟨trivial, ⟨⟨trivial, c10⟩, ⟨trivial, ⟨trivial, trivial⟩⟩⟩⟩⟩
            refine TS.reg [.none, .none, .dec false] ?_ ?_
            · apply prop_of ?_ hq
              kernel_rfl
            refine XS.then ?_
            refine TS.no ?_ ?_
            · kernel_rfl
            refine TS.seq ?_
            have hq : (True) ∧ ((True) ∧ (((True) ∧ (!on) = false) ∧ ((True) ∧ ((True) ∧ (True))))) := ⟨trivial, ⟨trivial, ⟨⟨trivial, c10⟩, ⟨trivial, ⟨trivial, trivial⟩⟩⟩⟩⟩
            refine TS.reg [.none, .none, .dec false] ?_ ?_
            · apply prop_of ?_ hq
              kernel_rfl
            refine XS.then ?_
            refine TS.no ?_ ?_
            · kernel_rfl
            refine TS.seq ?_
            have hq : (True) ∧ ((True) ∧ (((True) ∧ (!on) = false) ∧ ((True) ∧ ((True) ∧ (True))))) := ⟨trivial, ⟨trivial, ⟨⟨trivial, c10⟩, ⟨trivial, ⟨trivial, trivial⟩⟩⟩⟩⟩
            refine TS.reg [.none, .none, .dec false] ?_ ?_
            · apply prop_of ?_ hq
              kernel_rfl
            refine XS.then ?_
            refine TS.no ?_ ?_
            · kernel_rfl
            refine TS.seq ?_
            have hq : (True) ∧ ((True) ∧ (((True) ∧ (!on) = false) ∧ ((True) ∧ ((True) ∧ (True))))) := ⟨trivial, ⟨trivial, ⟨⟨trivial, c10⟩, ⟨trivial, ⟨trivial, trivial⟩⟩⟩⟩⟩
            refine TS.reg [.none, .none, .dec false] ?_ ?_
            · apply prop_of ?_ hq
              kernel_rfl
            refine XS.then ?_
            refine TS.no ?_ ?_
            · kernel_rfl
            refine TS.seq ?_
            have hq : (True) ∧ ((True) ∧ (((True) ∧ (!on) = false) ∧ ((True) ∧ ((True) ∧ (True))))) := ⟨trivial, ⟨trivial, ⟨⟨trivial, c10⟩, ⟨trivial, ⟨trivial, trivial⟩⟩⟩⟩⟩
            refine TS.reg [.none, .none, .dec false] ?_ ?_
            · apply prop_of ?_ hq
              kernel_rfl
            refine XS.then ?_
            refine TS.no ?_ ?_
            · kernel_rfl
            refine TS.seq ?_
            have hq : (True) ∧ ((True) ∧ ((True) ∧ (True))) := ⟨trivial, ⟨trivial, ⟨trivial, trivial⟩⟩⟩
            refine TS.reg [] ?_ ?_
            · apply prop_of ?_ hq
              kernel_rfl
            refine XS.then ?_
            refine TS.ret ?_
            refine XS.blockRet ?_
            refine XS.passR ?_
            obtain rfl : (p_Status, p_Change, (8 : Int)) = r := Option.some.inj h
            exact XS.fin [] ((True) ∧ ((True) ∧ (True))) (by kernel_rfl) ⟨trivial, ⟨trivial, trivial⟩⟩
      · have hq : (True) ∧ (((True) ∧ on = true) ∧ ((True) ∧ ((True) ∧ ((True) ∧ (((True) ∧ (feature == (4 : Int)) = false) ∧ ((True) ∧ ((True) ∧ (True)))))))) := ⟨trivial, ⟨⟨trivial, c1⟩, ⟨trivial, ⟨trivial, ⟨trivial, ⟨⟨trivial, c6⟩, ⟨trivial, ⟨trivial, trivial⟩⟩⟩⟩⟩⟩⟩⟩
        refine TS.reg [.none, .dec true, .none, .none, .none, .dec false] ?_ ?_
        · apply prop_of ?_ hq
          kernel_rfl
        refine XS.then ?_
        refine TS.no ?_ ?_
        · kernel_rfl
        refine TS.seq ?_
        rcases bif_some h with ⟨c24, h⟩ | ⟨c25, h⟩
        · have hq : (True) ∧ ((True) ∧ (((True) ∧ (!on) = true) ∧ ((True) ∧ ((True) ∧ ((True) ∧ ((True) ∧ (True))))))) := ⟨trivial, ⟨trivial, ⟨⟨trivial, c24⟩, ⟨trivial, ⟨trivial, ⟨trivial, ⟨trivial, trivial⟩⟩⟩⟩⟩⟩⟩
          refine TS.reg [.none, .none, .dec true] ?_ ?_
          · apply prop_of ?_ hq
            kernel_rfl
          refine XS.then ?_
          refine TS.cond (feature == (8 : Int)) ?_ (fun hcz => by rw [c4] at hcz; cases hcz) (fun hcz => ?_)
          · kernel_rfl
          refine TS.seq ?_
          have hq : (True) ∧ ((True) ∧ (((True) ∧ (!on) = true) ∧ ((True) ∧ ((True) ∧ ((True) ∧ ((True) ∧ (True))))))) := ⟨trivial, ⟨trivial, ⟨⟨trivial, c24⟩, ⟨trivial, ⟨trivial, ⟨trivial, ⟨trivial, trivial⟩⟩⟩⟩⟩⟩⟩
          refine TS.reg [.none, .none, .dec true] ?_ ?_
          · apply prop_of ?_ hq
            kernel_rfl
          refine XS.then ?_
          rcases bif_some h with ⟨c26, h⟩ | ⟨c27, h⟩
          · refine TS.cond (feature == (1 : Int)) ?_ (fun hcz => ?_) (fun hcz => by rw [c26] at hcz; cases hcz)
            · kernel_rfl
            refine TS.seq ?_
            have hq : (True) ∧ ((True) ∧ ((True) ∧ (True))) := ⟨trivial, ⟨trivial, ⟨trivial, trivial⟩⟩⟩
            refine TS.reg [] ?_ ?_
            · apply prop_of ?_ hq
              kernel_rfl
            refine XS.then ?_
            rcases bif_some h with ⟨c28, h⟩ | ⟨c29, h⟩
            · refine TS.cond (p_Status == (259 : Int)) ?_ (fun hcz => ?_) (fun hcz => by rw [c28] at hcz; cases hcz)
              · kernel_rfl
              have hq : (True) ∧ ((True) ∧ (True)) := ⟨trivial, ⟨trivial, trivial⟩⟩
              refine TS.reg [] ?_ ?_
              · apply prop_of ?_ hq
                kernel_rfl
              refine XS.blockEnd ?_
              refine XS.then ?_
              refine TS.seq ?_
              have hq : (True) ∧ ((True) ∧ ((True) ∧ (True))) := ⟨trivial, ⟨trivial, ⟨trivial, trivial⟩⟩⟩
              refine TS.reg [] ?_ ?_
              · apply prop_of ?_ hq
                kernel_rfl
              refine XS.then ?_
              refine TS.ret ?_
              obtain rfl : ((257 : Int), p_Change, (0 : Int)) = r := Option.some.inj h
              exact XS.fin [] ((True) ∧ ((True) ∧ (True))) (by kernel_rfl) ⟨trivial, ⟨trivial, trivial⟩⟩
            · refine TS.cond (p_Status == (259 : Int)) ?_ (fun hcz => by rw [c29] at hcz; cases hcz) (fun hcz => ?_)
              · kernel_rfl
              refine TS.skip ?_
              refine XS.blockEnd ?_
              refine XS.then ?_
              refine TS.seq ?_
              have hq : (True) ∧ ((True) ∧ ((True) ∧ (True))) := ⟨trivial, ⟨trivial, ⟨trivial, trivial⟩⟩⟩
              refine TS.reg [] ?_ ?_
              · apply prop_of ?_ hq
                kernel_rfl
              refine XS.then ?_
              refine TS.ret ?_
              obtain rfl : (p_Status, p_Change, (0 : Int)) = r := Option.some.inj h
              exact XS.fin [] ((True) ∧ ((True) ∧ (True))) (by kernel_rfl) ⟨trivial, ⟨trivial, trivial⟩⟩
          · refine TS.cond (feature == (1 : Int)) ?_ (fun hcz => by rw [c27] at hcz; cases hcz) (fun hcz => ?_)
            · kernel_rfl
            refine TS.seq ?_
            have hq : (True) ∧ ((True) ∧ (((True) ∧ (!on) = true) ∧ ((True) ∧ ((True) ∧ ((True) ∧ ((True) ∧ (True))))))) := ⟨trivial, ⟨trivial, ⟨⟨trivial, c24⟩, ⟨trivial, ⟨trivial, ⟨trivial, ⟨trivial, trivial⟩⟩⟩⟩⟩⟩⟩
            refine TS.reg [.none, .none, .dec true] ?_ ?_
            · apply prop_of ?_ hq
              kernel_rfl
            refine XS.then ?_
            rcases bif_some h with ⟨c30, h⟩ | ⟨c31, h⟩
            · refine TS.cond (feature == (16 : Int)) ?_ (fun hcz => ?_) (fun hcz => by rw [c30] at hcz; cases hcz)
              · kernel_rfl
              obtain ⟨y_7, hx32, h⟩ := bind_some' h
              have hq : (True) ∧ ((True) ∧ ((PureC Try.prog 155 [(.int .i64 p_Change), (.int .i64 (1 : Int))] (.int .i64 y_7) []) ∧ ((True) ∧ ((True) ∧ (True))))) := ⟨trivial, ⟨trivial, ⟨F155_ok n p_Change (1 : Int) y_7 hx32, ⟨trivial, ⟨trivial, trivial⟩⟩⟩⟩⟩
              refine TS.reg [.none, .none, (.call (.int .i64 y_7) [])] ?_ ?_
              · apply prop_of ?_ hq
                kernel_rfl
              refine XS.blockEnd ?_
              refine XS.then ?_
              refine TS.seq ?_
              have hq : (True) ∧ ((True) ∧ ((True) ∧ (True))) := ⟨trivial, ⟨trivial, ⟨trivial, trivial⟩⟩⟩
              refine TS.reg [] ?_ ?_
              · apply prop_of ?_ hq
                kernel_rfl
              refine XS.then ?_
              refine TS.ret ?_
              obtain rfl : (p_Status, y_7, (0 : Int)) = r := Option.some.inj h
              exact XS.fin [] ((True) ∧ ((True) ∧ (True))) (by kernel_rfl) ⟨trivial, ⟨trivial, trivial⟩⟩
            · refine TS.cond (feature == (16 : Int)) ?_ (fun hcz => by rw [c31] at hcz; cases hcz) (fun hcz => ?_)
              · kernel_rfl
              refine TS.seq ?_
              have hq : (True) ∧ ((True) ∧ (((True) ∧ (!on) = true) ∧ ((True) ∧ ((True) ∧ ((True) ∧ ((True) ∧ (True))))))) := ⟨trivial, ⟨trivial, ⟨⟨trivial, c24⟩, ⟨trivial, ⟨trivial, ⟨trivial, ⟨trivial, trivial⟩⟩⟩⟩⟩⟩⟩
              refine TS.reg [.none, .none, .dec true] ?_ ?_
              · apply prop_of ?_ hq
                kernel_rfl
              refine XS.then ?_
              rcases bif_some h with ⟨c33, h⟩ | ⟨c34, h⟩
              · refine TS.cond (feature == (17 : Int)) ?_ (fun hcz => ?_) (fun hcz => by rw [c33] at hcz; cases hcz)
                · kernel_rfl
                obtain ⟨y_8, hx35, h⟩ := bind_some' h
                have hq : (True) ∧ ((True) ∧ ((PureC Try.prog 155 [(.int .i64 p_Change), (.int .i64 (2 : Int))] (.int .i64 y_8) []) ∧ ((True) ∧ ((True) ∧ (True))))) := ⟨trivial, ⟨trivial, ⟨F155_ok n p_Change (2 : Int) y_8 hx35, ⟨trivial, ⟨trivial, trivial⟩⟩⟩⟩⟩
                refine TS.reg [.none, .none, (.call (.int .i64 y_8) [])] ?_ ?_
                · apply prop_of ?_ hq
                  kernel_rfl
                refine XS.blockEnd ?_
                refine XS.then ?_
                refine TS.seq ?_
                have hq : (True) ∧ ((True) ∧ ((True) ∧ (True))) := ⟨trivial, ⟨trivial, ⟨trivial, trivial⟩⟩⟩
                refine TS.reg [] ?_ ?_
                · apply prop_of ?_ hq
                  kernel_rfl
                refine XS.then ?_
                refine TS.ret ?_
                obtain rfl : (p_Status, y_8, (0 : Int)) = r := Option.some.inj h
                exact XS.fin [] ((True) ∧ ((True) ∧ (True))) (by kernel_rfl) ⟨trivial, ⟨trivial, trivial⟩⟩
              · refine TS.cond (feature == (17 : Int)) ?_ (fun hcz => by rw [c34] at hcz; cases hcz) (fun hcz => ?_)
                · kernel_rfl
                refine TS.seq ?_
                have hq : (True) ∧ ((True) ∧ (((True) ∧ (!on) = true) ∧ ((True) ∧ ((True) ∧ ((True) ∧ ((True) ∧ (True))))))) := ⟨trivial, ⟨trivial, ⟨⟨trivial, c24⟩, ⟨trivial, ⟨trivial, ⟨trivial, ⟨trivial, trivial⟩⟩⟩⟩⟩⟩⟩
                refine TS.reg [.none, .none, .dec true] ?_ ?_
                · apply prop_of ?_ hq
                  kernel_rfl
                refine XS.then ?_
                rcases bif_some h with ⟨c36, h⟩ | ⟨c37, h⟩
                · refine TS.cond (feature == (20 : Int)) ?_ (fun hcz => ?_) (fun hcz => by rw [c36] at hcz; cases hcz)
                  · kernel_rfl
                  obtain ⟨y_9, hx38, h⟩ := bind_some' h
                  have hq : (True) ∧ ((True) ∧ ((PureC Try.prog 155 [(.int .i64 p_Change), (.int .i64 (16 : Int))] (.int .i64 y_9) []) ∧ ((True) ∧ ((True) ∧ (True))))) := ⟨trivial, ⟨trivial, ⟨F155_ok n p_Change (16 : Int) y_9 hx38, ⟨trivial, ⟨trivial, trivial⟩⟩⟩⟩⟩
                  refine TS.reg [.none, .none, (.call (.int .i64 y_9) [])] ?_ ?_
                  · apply prop_of ?_ hq
                    kernel_rfl
                  refine XS.blockEnd ?_
                  refine XS.then ?_
                  refine TS.seq ?_
                  have hq : (True) ∧ ((True) ∧ ((True) ∧ (True))) := ⟨trivial, ⟨trivial, ⟨trivial, trivial⟩⟩⟩
                  refine TS.reg [] ?_ ?_
                  · apply prop_of ?_ hq
                    kernel_rfl
                  refine XS.then ?_
                  refine TS.ret ?_
                  obtain rfl : (p_Status, y_9, (0 : Int)) = r := Option.some.inj h
                  exact XS.fin [] ((True) ∧ ((True) ∧ (True))) (by kernel_rfl) ⟨trivial, ⟨trivial, trivial⟩⟩
                · refine TS.cond (feature == (20 : Int)) ?_ (fun hcz => by rw [c37] at hcz; cases hcz) (fun hcz => ?_)
                  · kernel_rfl
                  refine TS.seq ?_
                  have hq : (True) ∧ ((True) ∧ ((True) ∧ (True))) := ⟨trivial, ⟨trivial, ⟨trivial, trivial⟩⟩⟩
                  refine TS.reg [] ?_ ?_
                  · apply prop_of ?_ hq
                    kernel_rfl
                  refine XS.then ?_
                  refine TS.ret ?_
                  refine XS.blockRet ?_
                  refine XS.passR ?_
                  obtain rfl : (p_Status, p_Change, (8 : Int)) = r := Option.some.inj h
                  exact XS.fin [] ((True) ∧ ((True) ∧ (True))) (by kernel_rfl) ⟨trivial, ⟨trivial, trivial⟩⟩
        · have hq : (True) ∧ ((True) ∧ (((True) ∧ (!on) = false) ∧ ((True) ∧ ((True) ∧ (True))))) := ⟨trivial, ⟨trivial, ⟨⟨trivial, c25⟩, ⟨trivial, ⟨trivial, trivial⟩⟩⟩⟩⟩
          refine TS.reg [.none, .none, .dec false] ?_ ?_
          · apply prop_of ?_ hq
            kernel_rfl
          refine XS.then ?_
          refine TS.no ?_ ?_
          · kernel_rfl
          refine TS.seq ?_
          have hq : (True) ∧ ((True) ∧ (((True) ∧ (!on) = false) ∧ ((True) ∧ ((True) ∧ (True))))) := ⟨trivial, ⟨trivial, ⟨⟨trivial, c25⟩, ⟨trivial, ⟨trivial, trivial⟩⟩⟩⟩⟩
          refine TS.reg [.none, .none, .dec false] ?_ ?_
          · apply prop_of ?_ hq
            kernel_rfl
          refine XS.then ?_
          refine TS.no ?_ ?_
          · kernel_rfl
          refine TS.seq ?_
          have hq : (True) ∧ ((True) ∧ (((True) ∧ (!on) = false) ∧ ((True) ∧ ((True) ∧ (True))))) := ⟨trivial, ⟨trivial, ⟨⟨trivial, c25⟩, ⟨trivial, ⟨trivial, trivial⟩⟩⟩⟩⟩
          refine TS.reg [.none, .none, .dec false] ?_ ?_
          · apply prop_of ?_ hq
            kernel_rfl
          refine XS.then ?_
          refine TS.no ?_ ?_
          · kernel_rfl
          refine TS.seq ?_
          have hq : (True) ∧ ((True) ∧ (((True) ∧ (!on) = false) ∧ ((True) ∧ ((True) ∧ (True))))) := ⟨trivial, ⟨trivial, ⟨⟨trivial, c25⟩, ⟨trivial, ⟨trivial, trivial⟩⟩⟩⟩⟩
          refine TS.reg [.none, .none, .dec false] ?_ ?_
          · apply prop_of ?_ hq
            kernel_rfl
          refine XS.then ?_
          refine TS.no ?_ ?_
          · kernel_rfl
          refine TS.seq ?_
          have hq : (True) ∧ ((True) ∧ (((True) ∧ (!on) = false) ∧ ((True) ∧ ((True) ∧ (True))))) := ⟨trivial, ⟨trivial, ⟨⟨trivial, c25⟩, ⟨trivial, ⟨trivial, trivial⟩⟩⟩⟩⟩
          refine TS.reg [.none, .none, .dec false] ?_ ?_
          · apply prop_of ?_ hq
            kernel_rfl
          refine XS.then ?_
          refine TS.no ?_ ?_
          · kernel_rfl
          refine TS.seq ?_
          have hq : (True) ∧ ((True) ∧ ((True) ∧ (True))) := ⟨trivial, ⟨trivial, ⟨trivial, trivial⟩⟩⟩
          refine TS.reg [] ?_ ?_
          · apply prop_of ?_ hq
            kernel_rfl
          refine XS.then ?_
          refine TS.ret ?_
          refine XS.blockRet ?_
          refine XS.passR ?_
          obtain rfl : (p_Status, p_Change, (8 : Int)) = r := Option.some.inj h
          exact XS.fin [] ((True) ∧ ((True) ∧ (True))) (by kernel_rfl) ⟨trivial, ⟨trivial, trivial⟩⟩
  · have hq : (True) ∧ (((True) ∧ on = false) ∧ ((True) ∧ ((True) ∧ (True)))) := ⟨trivial, ⟨⟨trivial, c2⟩, ⟨trivial, ⟨trivial, trivial⟩⟩⟩⟩
    refine TS.reg [.none, .dec false] ?_ ?_
    · apply prop_of ?_ hq
      kernel_rfl
    refine XS.then ?_
    refine TS.no ?_ ?_
    · kernel_rfl
    refine TS.seq ?_
    have hq : (True) ∧ (((True) ∧ on = false) ∧ ((True) ∧ ((True) ∧ ((True) ∧ ((True) ∧ (True)))))) := ⟨trivial, ⟨⟨trivial, c2⟩, ⟨trivial, ⟨trivial, ⟨trivial, ⟨trivial, trivial⟩⟩⟩⟩⟩⟩
    refine TS.reg [.none, .dec false] ?_ ?_
    · apply prop_of ?_ hq
      kernel_rfl
    refine XS.then ?_
    refine TS.no ?_ ?_
    · kernel_rfl
    refine TS.seq ?_
    rcases bif_some h with ⟨c39, h⟩ | ⟨c40, h⟩
    · have hq : (True) ∧ ((True) ∧ (((True) ∧ (!on) = true) ∧ ((True) ∧ ((True) ∧ ((True) ∧ ((True) ∧ (True))))))) := ⟨trivial, ⟨trivial, ⟨⟨trivial, c39⟩, ⟨trivial, ⟨trivial, ⟨trivial, ⟨trivial, trivial⟩⟩⟩⟩⟩⟩⟩
      refine TS.reg [.none, .none, .dec true] ?_ ?_
      · apply prop_of ?_ hq
        kernel_rfl
      refine XS.then ?_
      rcases bif_some h with ⟨c41, h⟩ | ⟨c42, h⟩
      · refine TS.cond (feature == (8 : Int)) ?_ (fun hcz => ?_) (fun hcz => by rw [c41] at hcz; cases hcz)
        · kernel_rfl
        have hq : (True) ∧ ((True) ∧ (True)) := ⟨trivial, ⟨trivial, trivial⟩⟩
        refine TS.reg [] ?_ ?_
        · apply prop_of ?_ hq
          kernel_rfl
        refine XS.blockEnd ?_
        refine XS.then ?_
        refine TS.seq ?_
        have hq : (True) ∧ ((True) ∧ ((True) ∧ (True))) := ⟨trivial, ⟨trivial, ⟨trivial, trivial⟩⟩⟩
        refine TS.reg [] ?_ ?_
        · apply prop_of ?_ hq
          kernel_rfl
        refine XS.then ?_
        refine TS.ret ?_
        obtain rfl : ((0 : Int), p_Change, (0 : Int)) = r := Option.some.inj h
        exact XS.fin [] ((True) ∧ ((True) ∧ (True))) (by kernel_rfl) ⟨trivial, ⟨trivial, trivial⟩⟩
      · refine TS.cond (feature == (8 : Int)) ?_ (fun hcz => by rw [c42] at hcz; cases hcz) (fun hcz => ?_)
        · kernel_rfl
        refine TS.seq ?_
        have hq : (True) ∧ ((True) ∧ (((True) ∧ (!on) = true) ∧ ((True) ∧ ((True) ∧ ((True) ∧ ((True) ∧ (True))))))) := ⟨trivial, ⟨trivial, ⟨⟨trivial, c39⟩, ⟨trivial, ⟨trivial, ⟨trivial, ⟨trivial, trivial⟩⟩⟩⟩⟩⟩⟩
        refine TS.reg [.none, .none, .dec true] ?_ ?_
        · apply prop_of ?_ hq
          kernel_rfl
        refine XS.then ?_
        rcases bif_some h with ⟨c43, h⟩ | ⟨c44, h⟩
        · refine TS.cond (feature == (1 : Int)) ?_ (fun hcz => ?_) (fun hcz => by rw [c43] at hcz; cases hcz)
          · kernel_rfl
          refine TS.seq ?_
          have hq : (True) ∧ ((True) ∧ ((True) ∧ (True))) := ⟨trivial, ⟨trivial, ⟨trivial, trivial⟩⟩⟩
          refine TS.reg [] ?_ ?_
          · apply prop_of ?_ hq
            kernel_rfl
          refine XS.then ?_
          rcases bif_some h with ⟨c45, h⟩ | ⟨c46, h⟩
          · refine TS.cond (p_Status == (259 : Int)) ?_ (fun hcz => ?_) (fun hcz => by rw [c45] at hcz; cases hcz)
            · kernel_rfl
            have hq : (True) ∧ ((True) ∧ (True)) := ⟨trivial, ⟨trivial, trivial⟩⟩
            refine TS.reg [] ?_ ?_
            · apply prop_of ?_ hq
              kernel_rfl
            refine XS.blockEnd ?_
            refine XS.then ?_
            refine TS.seq ?_
            have hq : (True) ∧ ((True) ∧ ((True) ∧ (True))) := ⟨trivial, ⟨trivial, ⟨trivial, trivial⟩⟩⟩
            refine TS.reg [] ?_ ?_
            · apply prop_of ?_ hq
              kernel_rfl
            refine XS.then ?_
            refine TS.ret ?_
            obtain rfl : ((257 : Int), p_Change, (0 : Int)) = r := Option.some.inj h
            exact XS.fin [] ((True) ∧ ((True) ∧ (True))) (by kernel_rfl) ⟨trivial, ⟨trivial, trivial⟩⟩
          · refine TS.cond (p_Status == (259 : Int)) ?_ (fun hcz => by rw [c46] at hcz; cases hcz) (fun hcz => ?_)
            · kernel_rfl
            refine TS.skip ?_
            refine XS.blockEnd ?_
            refine XS.then ?_
            refine TS.seq ?_
            have hq : (True) ∧ ((True) ∧ ((True) ∧ (True))) := ⟨trivial, ⟨trivial, ⟨trivial, trivial⟩⟩⟩
            refine TS.reg [] ?_ ?_
            · apply prop_of ?_ hq
              kernel_rfl
            refine XS.then ?_
            refine TS.ret ?_
            obtain rfl : (p_Status, p_Change, (0 : Int)) = r := Option.some.inj h
            exact XS.fin [] ((True) ∧ ((True) ∧ (True))) (by kernel_rfl) ⟨trivial, ⟨trivial, trivial⟩⟩
        · refine TS.cond (feature == (1 : Int)) ?_ (fun hcz => by rw [c44] at hcz; cases hcz) (fun hcz => ?_)
          · kernel_rfl
          refine TS.seq ?_
          have hq : (True) ∧ ((True) ∧ (((True) ∧ (!on) = true) ∧ ((True) ∧ ((True) ∧ ((True) ∧ ((True) ∧ (True))))))) := ⟨trivial, ⟨trivial, ⟨⟨trivial, c39⟩, ⟨trivial, ⟨trivial, ⟨trivial, ⟨trivial, trivial⟩⟩⟩⟩⟩⟩⟩
          refine TS.reg [.none, .none, .dec true] ?_ ?_
          · apply prop_of ?_ hq
            kernel_rfl
          refine XS.then ?_
          rcases bif_some h with ⟨c47, h⟩ | ⟨c48, h⟩
          · refine TS.cond (feature == (16 : Int)) ?_ (fun hcz => ?_) (fun hcz => by rw [c47] at hcz; cases hcz)
            · kernel_rfl
            obtain ⟨y_10, hx49, h⟩ := bind_some' h
            have hq : (True) ∧ ((True) ∧ ((PureC Try.prog 155 [(.int .i64 p_Change), (.int .i64 (1 : Int))] (.int .i64 y_10) []) ∧ ((True) ∧ ((True) ∧ (True))))) := ⟨trivial, ⟨trivial, ⟨F155_ok n p_Change (1 : Int) y_10 hx49, ⟨trivial, ⟨trivial, trivial⟩⟩⟩⟩⟩
            refine TS.reg [.none, .none, (.call (.int .i64 y_10) [])] ?_ ?_
            · apply prop_of ?_ hq
              kernel_rfl
            refine XS.blockEnd ?_
            refine XS.then ?_
            refine TS.seq ?_
            have hq : (True) ∧ ((True) ∧ ((True) ∧ (True))) := ⟨trivial, ⟨trivial, ⟨trivial, trivial⟩⟩⟩
            refine TS.reg [] ?_ ?_
            · apply prop_of ?_ hq
              kernel_rfl
            refine XS.then ?_
            refine TS.ret ?_
            obtain rfl : (p_Status, y_10, (0 : Int)) = r := Option.some.inj h
            exact XS.fin [] ((True) ∧ ((True) ∧ (True))) (by kernel_rfl) ⟨trivial, ⟨trivial, trivial⟩⟩
          · refine TS.cond (feature == (16 : Int)) ?_ (fun hcz => by rw [c48] at hcz; cases hcz) (fun hcz => ?_)
            · kernel_rfl
            refine TS.seq ?_
            have hq : (True) ∧ ((True) ∧ (((True) ∧ (!on) = true) ∧ ((True) ∧ ((True) ∧ ((True) ∧ ((True) ∧ (True))))))) := ⟨trivial, ⟨trivial, ⟨⟨trivial, c39⟩, ⟨trivial, ⟨trivial, ⟨trivial, ⟨trivial, trivial⟩⟩⟩⟩⟩⟩⟩
            refine TS.reg [.none, .none, .dec true] ?_ ?_
            · apply prop_of ?_ hq
              kernel_rfl
            refine XS.then ?_
            rcases bif_some h with ⟨c50, h⟩ | ⟨c51, h⟩
            · refine TS.cond (feature == (17 : Int)) ?_ (fun hcz => ?_) (fun hcz => by rw [c50] at hcz; cases hcz)
              · kernel_rfl
              obtain ⟨y_11, hx52, h⟩ := bind_some' h
              have hq : (True) ∧ ((True) ∧ ((PureC Try.prog 155 [(.int .i64 p_Change), (.int .i64 (2 : Int))] (.int .i64 y_11) []) ∧ ((True) ∧ ((True) ∧ (True))))) := ⟨trivial, ⟨trivial, ⟨F155_ok n p_Change (2 : Int) y_11 hx52, ⟨trivial, ⟨trivial, trivial⟩⟩⟩⟩⟩
              refine TS.reg [.none, .none, (.call (.int .i64 y_11) [])] ?_ ?_
              · apply prop_of ?_ hq
                kernel_rfl
              refine XS.blockEnd ?_
              refine XS.then ?_
              refine TS.seq ?_
              have hq : (True) ∧ ((True) ∧ ((True) ∧ (True))) := ⟨trivial, ⟨trivial, ⟨trivial, trivial⟩⟩⟩
              refine TS.reg [] ?_ ?_
              · apply prop_of ?_ hq
                kernel_rfl
              refine XS.then ?_
              refine TS.ret ?_
              obtain rfl : (p_Status, y_11, (0 : Int)) = r := Option.some.inj h
              exact XS.fin [] ((True) ∧ ((True) ∧ (True))) (by kernel_rfl) ⟨trivial, ⟨trivial, trivial⟩⟩
            · refine TS.cond (feature == (17 : Int)) ?_ (fun hcz => by rw [c51] at hcz; cases hcz) (fun hcz => ?_)
              · kernel_rfl
              refine TS.seq ?_
              have hq : (True) ∧ ((True) ∧ (((True) ∧ (!on) = true) ∧ ((True) ∧ ((True) ∧ ((True) ∧ ((True) ∧ (True))))))) := ⟨trivial, ⟨trivial, ⟨⟨trivial, c39⟩, ⟨trivial, ⟨trivial, ⟨trivial, ⟨trivial, trivial⟩⟩⟩⟩⟩⟩⟩
              refine TS.reg [.none, .none, .dec true] ?_ ?_
              · apply prop_of ?_ hq
                kernel_rfl
              refine XS.then ?_
              rcases bif_some h with ⟨c53, h⟩ | ⟨c54, h⟩
              · refine TS.cond (feature == (20 : Int)) ?_ (fun hcz => ?_) (fun hcz => by rw [c53] at hcz; cases hcz)
                · kernel_rfl
                obtain ⟨y_12, hx55, h⟩ := bind_some' h
                have hq : (True) ∧ ((True) ∧ ((PureC Try.prog 155 [(.int .i64 p_Change), (.int .i64 (16 : Int))] (.int .i64 y_12) []) ∧ ((True) ∧ ((True) ∧ (True))))) := ⟨trivial, ⟨trivial, ⟨F155_ok n p_Change (16 : Int) y_12 hx55, ⟨trivial, ⟨trivial, trivial⟩⟩⟩⟩⟩
                refine TS.reg [.none, .none, (.call (.int .i64 y_12) [])] ?_ ?_
                · apply prop_of ?_ hq
                  kernel_rfl
                refine XS.blockEnd ?_
                refine XS.then ?_
                refine TS.seq ?_
                have hq : (True) ∧ ((True) ∧ ((True) ∧ (True))) := ⟨trivial, ⟨trivial, ⟨trivial, trivial⟩⟩⟩
                refine TS.reg [] ?_ ?_
                · apply prop_of ?_ hq
                  kernel_rfl
                refine XS.then ?_
                refine TS.ret ?_
                obtain rfl : (p_Status, y_12, (0 : Int)) = r := Option.some.inj h
                exact XS.fin [] ((True) ∧ ((True) ∧ (True))) (by kernel_rfl) ⟨trivial, ⟨trivial, trivial⟩⟩
              · refine TS.cond (feature == (20 : Int)) ?_ (fun hcz => by rw [c54] at hcz; cases hcz) (fun hcz => ?_)
                · kernel_rfl
                refine TS.seq ?_
                have hq : (True) ∧ ((True) ∧ ((True) ∧ (True))) := ⟨trivial, ⟨trivial, ⟨trivial, trivial⟩⟩⟩
                refine TS.reg [] ?_ ?_
                · apply prop_of ?_ hq
                  kernel_rfl
                refine XS.then ?_
                refine TS.ret ?_
                refine XS.blockRet ?_
                refine XS.passR ?_
                obtain rfl : (p_Status, p_Change, (8 : Int)) = r := Option.some.inj h
                exact XS.fin [] ((True) ∧ ((True) ∧ (True))) (by kernel_rfl) ⟨trivial, ⟨trivial, trivial⟩⟩
    · have hq : (True) ∧ ((True) ∧ (((True) ∧ (!on) = false) ∧ ((True) ∧ ((True) ∧ (True))))) := ⟨trivial, ⟨trivial, ⟨⟨trivial, c40⟩, ⟨trivial, ⟨trivial, trivial⟩⟩⟩⟩⟩
      refine TS.reg [.none, .none, .dec false] ?_ ?_
      · apply prop_of ?_ hq
        kernel_rfl
      refine XS.then ?_
      refine TS.no ?_ ?_
      · kernel_rfl
      refine TS.seq ?_
      have hq : (True) ∧ ((True) ∧ (((True) ∧ (!on) = false) ∧ ((True) ∧ ((True) ∧ (True))))) := ⟨trivial, ⟨trivial, ⟨⟨trivial, c40⟩, ⟨trivial, ⟨trivial, trivial⟩⟩⟩⟩⟩
      refine TS.reg [.none, .none, .dec false] ?_ ?_
      · apply prop_of ?_ hq
        kernel_rfl
      refine XS.then ?_
      refine TS.no ?_ ?_
      · kernel_rfl
      refine TS.seq ?_
      have hq : (True) ∧ ((True) ∧ (((True) ∧ (!on) = false) ∧ ((True) ∧ ((True) ∧ (True))))) := ⟨trivial, ⟨trivial, ⟨⟨trivial, c40⟩, ⟨trivial, ⟨trivial, trivial⟩⟩⟩⟩⟩
      refine TS.reg [.none, .none, .dec false] ?_ ?_
      · apply prop_of ?_ hq
        kernel_rfl
      refine XS.then ?_
      refine TS.no ?_ ?_
      · kernel_rfl
      refine TS.seq ?_
      have hq : (True) ∧ ((True) ∧ (((True) ∧ (!on) = false) ∧ ((True) ∧ ((True) ∧ (True))))) := ⟨trivial, ⟨trivial, ⟨⟨trivial, c40⟩, ⟨trivial, ⟨trivial, trivial⟩⟩⟩⟩⟩
      refine TS.reg [.none, .none, .dec false] ?_ ?_
      · apply prop_of ?_ hq
        kernel_rfl
      refine XS.then ?_
      refine TS.no ?_ ?_
      · kernel_rfl
      refine TS.seq ?_
      have hq : (True) ∧ ((True) ∧ (((True) ∧ (!on) = false) ∧ ((True) ∧ ((True) ∧ (True))))) := ⟨trivial, ⟨trivial, ⟨⟨trivial, c40⟩, ⟨trivial, ⟨trivial, trivial⟩⟩⟩⟩⟩
      refine TS.reg [.none, .none, .dec false] ?_ ?_
      · apply prop_of ?_ hq
        kernel_rfl
      refine XS.then ?_
      refine TS.no ?_ ?_
      · kernel_rfl
      refine TS.seq ?_
      have hq : (True) ∧ ((True) ∧ ((True) ∧ (True))) := ⟨trivial, ⟨trivial, ⟨trivial, trivial⟩⟩⟩
      refine TS.reg [] ?_ ?_
      · apply prop_of ?_ hq
        kernel_rfl
      refine XS.then ?_
      refine TS.ret ?_
      refine XS.blockRet ?_
      refine XS.passR ?_
      obtain rfl : (p_Status, p_Change, (8 : Int)) = r := Option.some.inj h
      exact XS.fin [] ((True) ∧ ((True) ∧ (True))) (by kernel_rfl) ⟨trivial, ⟨trivial, trivial⟩⟩

/-! plugtree/plugref.HubControl -/
def F34_j2 (n : Nat) (h_Count : Int) (y_10 : Int × Int × Int) : (List (Int × Int)) → Option (Int × (List (Int × Int)) × (List UInt8) × Int)
  | m0 => (some (h_Count, m0, ([] : List UInt8), y_10.2.2))
def F34 (n : Nat) (h_Count : Int) (h_Ports : List (Int × Int)) (ask : List UInt8) : Option (Int × (List (Int × Int)) × (List UInt8) × Int) := ((F92 n h_Count h_Ports).bind fun y_5 => (bif (y_5 != (0 : Int)) then (some (h_Count, h_Ports, ([] : List UInt8), y_5)) else ((F93 n ask).bind fun y_6 => (bif (y_6.2.2.2.2 != (0 : Int)) then (some (h_Count, h_Ports, ([] : List UInt8), (8 : Int))) else ((F15 n y_6.1 (8 : Int) (10 : Int)).bind fun y_7 => (bif (!y_7) then (some (h_Count, h_Ports, ([] : List UInt8), (12 : Int))) else (bif (decide (y_6.2.2.1 > h_Count)) then (some (h_Count, h_Ports, ([] : List UInt8), (8 : Int))) else (bif inb y_6.2.2.1 16 then (bif (y_6.1 == (8 : Int)) then ((F65 n ((h_Ports.getD y_6.2.2.1.toNat ((0 : Int), (0 : Int))).1)).bind fun y_8 => ((F65 n ((h_Ports.getD y_6.2.2.1.toNat ((0 : Int), (0 : Int))).2)).bind fun y_9 => (bif (decide (y_8.length + y_9.length ≤ 9223372036854775807)) then (some (h_Count, h_Ports, (y_8 ++ y_9), (0 : Int))) else none))) else ((F94 n ((h_Ports.getD y_6.2.2.1.toNat ((0 : Int), (0 : Int))).1) ((h_Ports.getD y_6.2.2.1.toNat ((0 : Int), (0 : Int))).2) (y_6.1 == (9 : Int)) y_6.2.1).bind fun y_10 => (bif (y_10.2.2 == (0 : Int)) then (F34_j2 n h_Count y_10 (h_Ports.set y_6.2.2.1.toNat (y_10.1, y_10.2.1))) else (F34_j2 n h_Count y_10 h_Ports)))) else none))))))))
theorem F34_ok (n : Nat) (h_Count : Int) (h_Ports : List (Int × Int)) (ask : List UInt8) (r : Int × (List (Int × Int)) × (List UInt8) × Int) (h : F34 n h_Count h_Ports ask = some r) : PureC Try.prog 34 [(.st (.cons (.int .i64 h_Count) (.arr 16 (.st (.pair (.int .i64) (.int .i64))) h_Ports))), (.str ask)] (.tup (.cons (.st (.cons (.int .i64 r.1) (.arr 16 (.st (.pair (.int .i64) (.int .i64))) r.2.1))) (.cons (.str r.2.2.1) (.cons (.int .i64 r.2.2.2) .nil)))) [] := by
  refine PureC.mkS Try.func34 rfl rfl ?_
  intro w0 fz0 hfz
  replace h : ((F92 n h_Count h_Ports).bind fun y_5 => (bif (y_5 != (0 : Int)) then (some (h_Count, h_Ports, ([] : List UInt8), y_5)) else ((F93 n ask).bind fun y_6 => (bif (y_6.2.2.2.2 != (0 : Int)) then (some (h_Count, h_Ports, ([] : List UInt8), (8 : Int))) else ((F15 n y_6.1 (8 : Int) (10 : Int)).bind fun y_7 => (bif (!y_7) then (some (h_Count, h_Ports, ([] : List UInt8), (12 : Int))) else (bif (decide (y_6.2.2.1 > h_Count)) then (some (h_Count, h_Ports, ([] : List UInt8), (8 : Int))) else (bif inb y_6.2.2.1 16 then (bif (y_6.1 == (8 : Int)) then ((F65 n ((h_Ports.getD y_6.2.2.1.toNat ((0 : Int), (0 : Int))).1)).bind fun y_8 => ((F65 n ((h_Ports.getD y_6.2.2.1.toNat ((0 : Int), (0 : Int))).2)).bind fun y_9 => (bif (decide (y_8.length + y_9.length ≤ 9223372036854775807)) then (some (h_Count, h_Ports, (y_8 ++ y_9), (0 : Int))) else none))) else ((F94 n ((h_Ports.getD y_6.2.2.1.toNat ((0 : Int), (0 : Int))).1) ((h_Ports.getD y_6.2.2.1.toNat ((0 : Int), (0 : Int))).2) (y_6.1 == (9 : Int)) y_6.2.1).bind fun y_10 => (bif (y_10.2.2 == (0 : Int)) then (F34_j2 n h_Count y_10 (h_Ports.set y_6.2.2.1.toNat (y_10.1, y_10.2.1))) else (F34_j2 n h_Count y_10 h_Ports)))) else none)))))))) = some r := h
  refine TS.seq ?_
  have hq : (True) ∧ ((True) ∧ ((True) ∧ ((True) ∧ (True)))) := ⟨trivial, ⟨trivial, ⟨trivial, ⟨trivial, trivial⟩⟩⟩⟩
  refine TS.reg [] ?_ ?_
  · apply prop_of ?_ hq
    kernel_rfl
  refine XS.then ?_
  refine TS.seq ?_
  refine TS.seq ?_
  obtain ⟨y_5, hx1, h⟩ := bind_some' h
  have hq : (True) ∧ ((PureC Try.prog 92 [(.st (.cons (.int .i64 h_Count) (.arr 16 (.st (.pair (.int .i64) (.int .i64))) h_Ports)))] (.int .i64 y_5) []) ∧ ((True) ∧ (True))) := ⟨trivial, ⟨F92_ok n h_Count h_Ports y_5 hx1, ⟨trivial, trivial⟩⟩⟩
  refine TS.reg [.none, (.call (.int .i64 y_5) [])] ?_ ?_
  · apply prop_of ?_ hq
    kernel_rfl
  refine XS.then ?_
  refine TS.seq ?_
  have hq : (True) ∧ ((True) ∧ (True)) := ⟨trivial, ⟨trivial, trivial⟩⟩
  refine TS.reg [] ?_ ?_
  · apply prop_of ?_ hq
    kernel_rfl
  refine XS.then ?_
  rcases bif_some h with ⟨c2, h⟩ | ⟨c3, h⟩
  · refine TS.cond (y_5 != (0 : Int)) ?_ (fun hcz => ?_) (fun hcz => by rw [c2] at hcz; cases hcz)
    · kernel_rfl
    refine TS.seq ?_
    have hq : (True) ∧ ((True) ∧ ((True) ∧ ((True) ∧ ((True) ∧ (True))))) := ⟨trivial, ⟨trivial, ⟨trivial, ⟨trivial, ⟨trivial, trivial⟩⟩⟩⟩⟩
    refine TS.reg [] ?_ ?_
    · apply prop_of ?_ hq
      kernel_rfl
    refine XS.then ?_
    refine TS.ret ?_
    refine XS.passR ?_
    obtain rfl : (h_Count, h_Ports, ([] : List UInt8), y_5) = r := Option.some.inj h
    exact XS.fin [] ((True) ∧ ((True) ∧ ((True) ∧ (True)))) (by kernel_rfl) ⟨trivial, ⟨trivial, ⟨trivial, trivial⟩⟩⟩
  · refine TS.cond (y_5 != (0 : Int)) ?_ (fun hcz => by rw [c3] at hcz; cases hcz) (fun hcz => ?_)
    · kernel_rfl
    refine TS.skip ?_
    refine XS.then ?_
    refine TS.seq ?_
    obtain ⟨y_6, hx4, h⟩ := bind_some' h
    have hq : (True) ∧ ((PureC Try.prog 93 [(.str ask)] (.tup (.cons (.st (.cons (.int .i64 y_6.1) (.cons (.int .i64 y_6.2.1) (.cons (.int .i64 y_6.2.2.1) (.int .i64 y_6.2.2.2.1))))) (.cons (.int .i64 y_6.2.2.2.2) .nil))) []) ∧ ((True) ∧ ((True) ∧ ((True) ∧ ((True) ∧ ((True) ∧ ((True) ∧ (True)))))))) := ⟨trivial, ⟨F93_ok n ask y_6 hx4, ⟨trivial, ⟨trivial, ⟨trivial, ⟨trivial, ⟨trivial, ⟨trivial, trivial⟩⟩⟩⟩⟩⟩⟩⟩
    refine TS.reg [.none, (.call (.tup (.cons (.st (.cons (.int .i64 y_6.1) (.cons (.int .i64 y_6.2.1) (.cons (.int .i64 y_6.2.2.1) (.int .i64 y_6.2.2.2.1))))) (.cons (.int .i64 y_6.2.2.2.2) .nil))) [])] ?_ ?_
    · apply prop_of ?_ hq
      kernel_rfl
    refine XS.then ?_
    refine TS.seq ?_
    refine TS.seq ?_
    have hq : (True) ∧ ((True) ∧ (True)) := ⟨trivial, ⟨trivial, trivial⟩⟩
    refine TS.reg [] ?_ ?_
    · apply prop_of ?_ hq
      kernel_rfl
    refine XS.then ?_
    rcases bif_some h with ⟨c5, h⟩ | ⟨c6, h⟩
    · refine TS.cond (y_6.2.2.2.2 != (0 : Int)) ?_ (fun hcz => ?_) (fun hcz => by rw [c5] at hcz; cases hcz)
      · kernel_rfl
      refine TS.seq ?_
      have hq : (True) ∧ ((True) ∧ ((True) ∧ ((True) ∧ (True)))) := ⟨trivial, ⟨trivial, ⟨trivial, ⟨trivial, trivial⟩⟩⟩⟩
      refine TS.reg [] ?_ ?_
      · apply prop_of ?_ hq
        kernel_rfl
      refine XS.then ?_
      refine TS.ret ?_
      refine XS.passR ?_
      obtain rfl : (h_Count, h_Ports, ([] : List UInt8), (8 : Int)) = r := Option.some.inj h
      exact XS.fin [] ((True) ∧ ((True) ∧ ((True) ∧ (True)))) (by kernel_rfl) ⟨trivial, ⟨trivial, ⟨trivial, trivial⟩⟩⟩
    · refine TS.cond (y_6.2.2.2.2 != (0 : Int)) ?_ (fun hcz => by rw [c6] at hcz; cases hcz) (fun hcz => ?_)
      · kernel_rfl
      refine TS.skip ?_
      refine XS.then ?_
      refine TS.seq ?_
      refine TS.seq ?_
      obtain ⟨y_7, hx7, h⟩ := bind_some' h
      have hq : (True) ∧ ((True) ∧ ((PureC Try.prog 15 [(.int .i64 y_6.1), (.int .i64 (8 : Int)), (.int .i64 (10 : Int))] (.bool y_7) []) ∧ ((True) ∧ (True)))) := ⟨trivial, ⟨trivial, ⟨F15_ok n y_6.1 (8 : Int) (10 : Int) y_7 hx7, ⟨trivial, trivial⟩⟩⟩⟩
      refine TS.reg [.none, .none, (.call (.bool y_7) [])] ?_ ?_
      · apply prop_of ?_ hq
        kernel_rfl
      refine XS.then ?_
      rcases bif_some h with ⟨c8, h⟩ | ⟨c9, h⟩
      · refine TS.cond (!y_7) ?_ (fun hcz => ?_) (fun hcz => by rw [c8] at hcz; cases hcz)
        · kernel_rfl
        refine TS.seq ?_
        have hq : (True) ∧ ((True) ∧ ((True) ∧ ((True) ∧ (True)))) := ⟨trivial, ⟨trivial, ⟨trivial, ⟨trivial, trivial⟩⟩⟩⟩
        refine TS.reg [] ?_ ?_
        · apply prop_of ?_ hq
          kernel_rfl
        refine XS.then ?_
        refine TS.ret ?_
        refine XS.passR ?_
        obtain rfl : (h_Count, h_Ports, ([] : List UInt8), (12 : Int)) = r := Option.some.inj h
        exact XS.fin [] ((True) ∧ ((True) ∧ ((True) ∧ (True)))) (by kernel_rfl) ⟨trivial, ⟨trivial, ⟨trivial, trivial⟩⟩⟩
      · refine TS.cond (!y_7) ?_ (fun hcz => by rw [c9] at hcz; cases hcz) (fun hcz => ?_)
        · kernel_rfl
        refine TS.skip ?_
        refine XS.then ?_
        refine TS.seq ?_
        refine TS.seq ?_
        have hq : (True) ∧ ((True) ∧ ((True) ∧ ((True) ∧ ((True) ∧ (True))))) := ⟨trivial, ⟨trivial, ⟨trivial, ⟨trivial, ⟨trivial, trivial⟩⟩⟩⟩⟩
        refine TS.reg [] ?_ ?_
        · apply prop_of ?_ hq
          kernel_rfl
        refine XS.then ?_
        rcases bif_some h with ⟨c10, h⟩ | ⟨c11, h⟩
        · refine TS.cond (decide (y_6.2.2.1 > h_Count)) ?_ (fun hcz => ?_) (fun hcz => by rw [c10] at hcz; cases hcz)
          · kernel_rfl
          refine TS.seq ?_
          have hq : (True) ∧ ((True) ∧ ((True) ∧ ((True) ∧ (True)))) := ⟨trivial, ⟨trivial, ⟨trivial, ⟨trivial, trivial⟩⟩⟩⟩
          refine TS.reg [] ?_ ?_
          · apply prop_of ?_ hq
            kernel_rfl
          refine XS.then ?_
          refine TS.ret ?_
          refine XS.passR ?_
          obtain rfl : (h_Count, h_Ports, ([] : List UInt8), (8 : Int)) = r := Option.some.inj h
          exact XS.fin [] ((True) ∧ ((True) ∧ ((True) ∧ (True)))) (by kernel_rfl) ⟨trivial, ⟨trivial, ⟨trivial, trivial⟩⟩⟩
        · refine TS.cond (decide (y_6.2.2.1 > h_Count)) ?_ (fun hcz => by rw [c11] at hcz; cases hcz) (fun hcz => ?_)
          · kernel_rfl
          refine TS.skip ?_
          refine XS.then ?_
          refine TS.seq ?_
          obtain ⟨t12, h⟩ := test_some h
          have hq : (True) ∧ ((True) ∧ ((True) ∧ ((inR y_6.2.2.1 16) ∧ ((y_6.2.2.1.toNat < 16 ∧ (True)) ∧ ((True) ∧ ((True) ∧ (True))))))) := ⟨trivial, ⟨trivial, ⟨trivial, ⟨inb_ok t12, ⟨⟨inR_lt (inb_ok t12), trivial⟩, ⟨trivial, ⟨trivial, trivial⟩⟩⟩⟩⟩⟩⟩
          refine TS.reg [] ?_ ?_
          · apply prop_of ?_ hq
            kernel_rfl
          refine XS.then ?_
          refine TS.seq ?_
          refine TS.seq ?_
          have hq : (True) ∧ ((True) ∧ ((True) ∧ (True))) := ⟨trivial, ⟨trivial, ⟨trivial, trivial⟩⟩⟩
          refine TS.reg [] ?_ ?_
          · apply prop_of ?_ hq
            kernel_rfl
          refine XS.then ?_
          rcases bif_some h with ⟨c13, h⟩ | ⟨c14, h⟩
          · refine TS.cond (y_6.1 == (8 : Int)) ?_ (fun hcz => ?_) (fun hcz => by rw [c13] at hcz; cases hcz)
            · kernel_rfl
            refine TS.seq ?_
            obtain ⟨y_8, hx15, h⟩ := bind_some' h
            obtain ⟨y_9, hx16, h⟩ := bind_some' h
            obtain ⟨t17, h⟩ := test_some h
            have hq : ((True) ∧ ((True) ∧ ((True) ∧ ((PureC Try.prog 65 [(.int .i64 (h_Ports.getD y_6.2.2.1.toNat ((0 : Int), (0 : Int))).1)] (.str y_8) []) ∧ ((True) ∧ ((True) ∧ ((PureC Try.prog 65 [(.int .i64 (h_Ports.getD y_6.2.2.1.toNat ((0 : Int), (0 : Int))).2)] (.str y_9) []) ∧ ((y_8.length + y_9.length ≤ 9223372036854775807) ∧ ((True) ∧ (True)))))))))) ∧ ((True) ∧ ((True) ∧ (True))) := ⟨⟨trivial, ⟨trivial, ⟨trivial, ⟨F65_ok n ((h_Ports.getD y_6.2.2.1.toNat ((0 : Int), (0 : Int))).1) y_8 hx15, ⟨trivial, ⟨trivial, ⟨F65_ok n ((h_Ports.getD y_6.2.2.1.toNat ((0 : Int), (0 : Int))).2) y_9 hx16, ⟨of_decide_eq_true t17, ⟨trivial, trivial⟩⟩⟩⟩⟩⟩⟩⟩⟩, ⟨trivial, ⟨trivial, trivial⟩⟩⟩
            refine TS.draw 9 [(8, 1)] [.none, .none, .none, (.call (.str y_8) []), .none, .none, (.call (.str y_9) [])] (by kernel_rfl) ?_ ?_
            · apply prop_of ?_ hq
              kernel_rfl
            refine XS.then ?_
            refine TS.ret ?_
            refine XS.passR ?_
            obtain rfl : (h_Count, h_Ports, (y_8 ++ y_9), (0 : Int)) = r := Option.some.inj h
            exact XS.fin [] ((True) ∧ ((True) ∧ ((True) ∧ (True)))) (by kernel_rfl) ⟨trivial, ⟨trivial, ⟨trivial, trivial⟩⟩⟩
          · refine TS.cond (y_6.1 == (8 : Int)) ?_ (fun hcz => by rw [c14] at hcz; cases hcz) (fun hcz => ?_)
            · kernel_rfl
            refine TS.skip ?_
            refine XS.then ?_
            refine TS.seq ?_
            obtain ⟨y_10, hx18, h⟩ := bind_some' h
            have hq : (True) ∧ ((True) ∧ ((True) ∧ ((True) ∧ ((True) ∧ ((True) ∧ ((PureC Try.prog 94 [(.st (.cons (.int .i64 (h_Ports.getD y_6.2.2.1.toNat ((0 : Int), (0 : Int))).1) (.int .i64 (h_Ports.getD y_6.2.2.1.toNat ((0 : Int), (0 : Int))).2))), (.bool (y_6.1 == (9 : Int))), (.int .i64 y_6.2.1)] (.tup (.cons (.st (.cons (.int .i64 y_10.1) (.int .i64 y_10.2.1))) (.cons (.int .i64 y_10.2.2) .nil))) []) ∧ ((True) ∧ ((True) ∧ ((True) ∧ ((True) ∧ ((True) ∧ ((True) ∧ (True))))))))))))) := ⟨trivial, ⟨trivial, ⟨trivial, ⟨trivial, ⟨trivial, ⟨trivial, ⟨F94_ok n ((h_Ports.getD y_6.2.2.1.toNat ((0 : Int), (0 : Int))).1) ((h_Ports.getD y_6.2.2.1.toNat ((0 : Int), (0 : Int))).2) (y_6.1 == (9 : Int)) y_6.2.1 y_10 hx18, ⟨trivial, ⟨trivial, ⟨trivial, ⟨trivial, ⟨trivial, ⟨trivial, trivial⟩⟩⟩⟩⟩⟩⟩⟩⟩⟩⟩⟩⟩
            refine TS.reg [.none, .none, .none, .none, .none, .none, (.call (.tup (.cons (.st (.cons (.int .i64 y_10.1) (.int .i64 y_10.2.1))) (.cons (.int .i64 y_10.2.2) .nil))) [])] ?_ ?_
            · apply prop_of ?_ hq
              kernel_rfl
            refine XS.then ?_
            refine TS.seq ?_
            refine TS.seq ?_
            have hq : (True) ∧ ((True) ∧ (True)) := ⟨trivial, ⟨trivial, trivial⟩⟩
            refine TS.reg [] ?_ ?_
            · apply prop_of ?_ hq
              kernel_rfl
            refine XS.then ?_
            refine TS.cut (D := List (Int × Int)) (fun d => match d with | m0 => (mkTs 72 [(2, (.ptr 0 [])), (4, (.ptr 1 [])), (9, (.int .i64 y_10.2.2))], [(.box 66 (.st (.cons (.int .i64 h_Count) (.arr 16 (.st (.pair (.int .i64) (.int .i64))) m0)))), (.box 66 (.st (.cons (.int .i64 (0 : Int)) (.arr 16 (.st (.pair (.int .i64) (.int .i64))) (List.replicate 16 ((0 : Int), (0 : Int)))))))])) (fun d => F34_j2 n h_Count y_10 d = some r) ?_ ?_
            · rintro m0 h
              replace h : (some (h_Count, m0, ([] : List UInt8), y_10.2.2)) = some r := h
              refine XS.then ?_
              refine TS.seq ?_
              have hq : (True) ∧ ((True) ∧ ((True) ∧ ((True) ∧ ((True) ∧ (True))))) := ⟨trivial, ⟨trivial, ⟨trivial, ⟨trivial, ⟨trivial, trivial⟩⟩⟩⟩⟩
              refine TS.reg [] ?_ ?_
              · apply prop_of ?_ hq
                kernel_rfl
              refine XS.then ?_
              refine TS.ret ?_
              obtain rfl : (h_Count, m0, ([] : List UInt8), y_10.2.2) = r := Option.some.inj h
              exact XS.fin [] ((True) ∧ ((True) ∧ ((True) ∧ (True)))) (by kernel_rfl) ⟨trivial, ⟨trivial, ⟨trivial, trivial⟩⟩⟩
            · rcases bif_some h with ⟨c19, h⟩ | ⟨c20, h⟩
              · refine TS.cond (y_10.2.2 == (0 : Int)) ?_ (fun hcz => ?_) (fun hcz => by rw [c19] at hcz; cases hcz)
                · kernel_rfl
                have hq : (True) ∧ ((True) ∧ ((True) ∧ ((True) ∧ ((inR y_6.2.2.1 16) ∧ ((y_6.2.2.1.toNat < 16 ∧ (True)) ∧ (True)))))) := ⟨trivial, ⟨trivial, ⟨trivial, ⟨trivial, ⟨inb_ok t12, ⟨⟨inR_lt (inb_ok t12), trivial⟩, trivial⟩⟩⟩⟩⟩⟩
                refine TS.reg [] ?_ ?_
                · apply prop_of ?_ hq
                  kernel_rfl
                refine XS.reAny [0, 1] (mkMask 72 [2, 4, 9]) (h_Ports.set y_6.2.2.1.toNat (y_10.1, y_10.2.1)) h ?_
                kernel_rfl
              · refine TS.cond (y_10.2.2 == (0 : Int)) ?_ (fun hcz => by rw [c20] at hcz; cases hcz) (fun hcz => ?_)
                · kernel_rfl
                refine TS.skip ?_
                refine XS.reAny [0, 1] (mkMask 72 [2, 4, 9]) h_Ports h ?_
                kernel_rfl

/-! plugtree/hub.Changes -/
def F35_l2 (n : Nat) (h_Ports : List (Int × Int)) (k35_2 : (Int × (List Int)) → Option ((List UInt8) × Int)) : (Int × (List Int)) → Option ((List UInt8) × Int)
  | (x, m0) => (bif (decide (x < (16 : Int))) then (bif inb x 16 then (bif ((h_Ports.getD x.toNat ((0 : Int), (0 : Int))).2 != (0 : Int)) then (bif inb (IntKind.wrap .i64 (x.tdiv (8 : Int))) m0.length then (bif (decide (0 ≤ (IntKind.wrap .u64 ((x.tmod (8 : Int)))))) then (k35_2 ((IntKind.wrap .i64 (x + (1 : Int))), (m0.set ((IntKind.wrap .i64 (x.tdiv (8 : Int))).toNat) (bitsI .or .u8 (m0.getD ((IntKind.wrap .i64 (x.tdiv (8 : Int))).toNat) (0 : Int)) (shlI .u8 (1 : Int) (IntKind.wrap .u64 ((x.tmod (8 : Int))))))))) else none) else none) else (k35_2 ((IntKind.wrap .i64 (x + (1 : Int))), m0))) else none) else (some ((strOf m0), (0 : Int))))
def F35 (n : Nat) (h_Count : Int) (h_Ports : List (Int × Int)) : Option ((List UInt8) × Int) := ((F88 n h_Count h_Ports).bind fun y_3 => (bif (y_3 != (0 : Int)) then (some (([] : List UInt8), y_3)) else (bif (decide (0 ≤ (IntKind.wrap .i64 ((IntKind.wrap .i64 (h_Count.tdiv (8 : Int))) + (1 : Int))) ∧ (IntKind.wrap .i64 ((IntKind.wrap .i64 (h_Count.tdiv (8 : Int))) + (1 : Int))) ≤ 17179869184)) then (loopF (F35_l2 n h_Ports) n ((0 : Int), (List.replicate (IntKind.wrap .i64 ((IntKind.wrap .i64 (h_Count.tdiv (8 : Int))) + (1 : Int))).toNat (0 : Int)))) else none)))
theorem F35_ok (n : Nat) (h_Count : Int) (h_Ports : List (Int × Int)) (r : (List UInt8) × Int) (h : F35 n h_Count h_Ports = some r) : PureC Try.prog 35 [(.st (.cons (.int .i64 h_Count) (.arr 16 (.st (.pair (.int .i64) (.int .i64))) h_Ports)))] (.tup (.cons (.str r.1) (.cons (.int .i64 r.2) .nil))) [] := by
  refine PureC.mkS Try.func35 rfl rfl ?_
  intro w0 fz0 hfz
  replace h : ((F88 n h_Count h_Ports).bind fun y_3 => (bif (y_3 != (0 : Int)) then (some (([] : List UInt8), y_3)) else (bif (decide (0 ≤ (IntKind.wrap .i64 ((IntKind.wrap .i64 (h_Count.tdiv (8 : Int))) + (1 : Int))) ∧ (IntKind.wrap .i64 ((IntKind.wrap .i64 (h_Count.tdiv (8 : Int))) + (1 : Int))) ≤ 17179869184)) then (loopF (F35_l2 n h_Ports) n ((0 : Int), (List.replicate (IntKind.wrap .i64 ((IntKind.wrap .i64 (h_Count.tdiv (8 : Int))) + (1 : Int))).toNat (0 : Int)))) else none))) = some r := h
  refine TS.seq ?_
  have hq : (True) ∧ ((True) ∧ ((True) ∧ (True))) := ⟨trivial, ⟨trivial, ⟨trivial, trivial⟩⟩⟩
  refine TS.reg [] ?_ ?_
  · apply prop_of ?_ hq
    kernel_rfl
  refine XS.then ?_
  refine TS.seq ?_
  refine TS.seq ?_
  obtain ⟨y_3, hx1, h⟩ := bind_some' h
  have hq : (True) ∧ ((PureC Try.prog 88 [(.st (.cons (.int .i64 h_Count) (.arr 16 (.st (.pair (.int .i64) (.int .i64))) h_Ports)))] (.int .i64 y_3) []) ∧ ((True) ∧ (True))) := ⟨trivial, ⟨F88_ok n h_Count h_Ports y_3 hx1, ⟨trivial, trivial⟩⟩⟩
  refine TS.reg [.none, (.call (.int .i64 y_3) [])] ?_ ?_
  · apply prop_of ?_ hq
    kernel_rfl
  refine XS.then ?_
  refine TS.seq ?_
  have hq : (True) ∧ ((True) ∧ (True)) := ⟨trivial, ⟨trivial, trivial⟩⟩
  refine TS.reg [] ?_ ?_
  · apply prop_of ?_ hq
    kernel_rfl
  refine XS.then ?_
  rcases bif_some h with ⟨c2, h⟩ | ⟨c3, h⟩
  · refine TS.cond (y_3 != (0 : Int)) ?_ (fun hcz => ?_) (fun hcz => by rw [c2] at hcz; cases hcz)
    · kernel_rfl
    refine TS.seq ?_
    have hq : (True) ∧ ((True) ∧ ((True) ∧ (True))) := ⟨trivial, ⟨trivial, ⟨trivial, trivial⟩⟩⟩
    refine TS.reg [] ?_ ?_
    · apply prop_of ?_ hq
      kernel_rfl
    refine XS.then ?_
    refine TS.ret ?_
    refine XS.passR ?_
    obtain rfl : (([] : List UInt8), y_3) = r := Option.some.inj h
    exact XS.fin [] ((True) ∧ ((True) ∧ (True))) (by kernel_rfl) ⟨trivial, ⟨trivial, trivial⟩⟩
  · refine TS.cond (y_3 != (0 : Int)) ?_ (fun hcz => by rw [c3] at hcz; cases hcz) (fun hcz => ?_)
    · kernel_rfl
    refine TS.skip ?_
    refine XS.then ?_
    refine TS.seq ?_
    obtain ⟨t4, h⟩ := test_some h
    have hq : (True) ∧ ((True) ∧ (((8 : Int) ≠ 0) ∧ ((True) ∧ (((IntKind.wrap .i64 ((IntKind.wrap .i64 (h_Count.tdiv (8 : Int))) + (1 : Int))) = (IntKind.wrap .i64 ((IntKind.wrap .i64 (h_Count.tdiv (8 : Int))) + (1 : Int))) ∧ (0 ≤ (IntKind.wrap .i64 ((IntKind.wrap .i64 (h_Count.tdiv (8 : Int))) + (1 : Int))) ∧ (IntKind.wrap .i64 ((IntKind.wrap .i64 (h_Count.tdiv (8 : Int))) + (1 : Int))) ≤ 17179869184)) ∧ ((True) ∧ (True)))))) := ⟨trivial, ⟨trivial, ⟨by decide, ⟨trivial, ⟨⟨rfl, of_decide_eq_true t4⟩, ⟨trivial, trivial⟩⟩⟩⟩⟩⟩
    refine TS.reg [] ?_ ?_
    · apply prop_of ?_ hq
      kernel_rfl
    refine XS.then ?_
    refine TS.seq ?_
    refine TS.seq ?_
    have hq : (True) ∧ ((True) ∧ ((True) ∧ (True))) := ⟨trivial, ⟨trivial, ⟨trivial, trivial⟩⟩⟩
    refine TS.reg [] ?_ ?_
    · apply prop_of ?_ hq
      kernel_rfl
    refine XS.then ?_
    refine TS.block ?_
    refine TS.reLoop [1] (mkMask 41 [5, 19, 20]) (D := Int × (List Int)) (fun d => match d with | (x, m0) => (mkTs 41 [(5, (.row 0)), (19, (.arr 16 (.st (.pair (.int .i64) (.int .i64))) h_Ports)), (20, (.int .i64 x))], [(.row 5 (.int .u8) m0)])) (fun n' d => loopF (F35_l2 n h_Ports) n' d = some r) n ((0 : Int), (List.replicate (IntKind.wrap .i64 ((IntKind.wrap .i64 (h_Count.tdiv (8 : Int))) + (1 : Int))).toNat (0 : Int))) h ?_ (fun d => loopF_zero _ d r) ?_
    · kernel_rfl
    · rintro n2 ⟨x, m0⟩ h
      replace h : (bif (decide (x < (16 : Int))) then (bif inb x 16 then (bif ((h_Ports.getD x.toNat ((0 : Int), (0 : Int))).2 != (0 : Int)) then (bif inb (IntKind.wrap .i64 (x.tdiv (8 : Int))) m0.length then (bif (decide (0 ≤ (IntKind.wrap .u64 ((x.tmod (8 : Int)))))) then ((loopF (F35_l2 n h_Ports) n2) ((IntKind.wrap .i64 (x + (1 : Int))), (m0.set ((IntKind.wrap .i64 (x.tdiv (8 : Int))).toNat) (bitsI .or .u8 (m0.getD ((IntKind.wrap .i64 (x.tdiv (8 : Int))).toNat) (0 : Int)) (shlI .u8 (1 : Int) (IntKind.wrap .u64 ((x.tmod (8 : Int))))))))) else none) else none) else ((loopF (F35_l2 n h_Ports) n2) ((IntKind.wrap .i64 (x + (1 : Int))), m0))) else none) else (some ((strOf m0), (0 : Int)))) = some r := h
      refine TS.seq ?_
      have hq : (True) ∧ (True) := ⟨trivial, trivial⟩
      refine TS.reg [] ?_ ?_
      · apply prop_of ?_ hq
        kernel_rfl
      refine XS.then ?_
      refine TS.seq ?_
      rcases bif_some h with ⟨c5, h⟩ | ⟨c6, h⟩
      · refine TS.cond (decide (x < (16 : Int))) ?_ (fun hcz => ?_) (fun hcz => by rw [c5] at hcz; cases hcz)
        · kernel_rfl
        refine TS.skip ?_
        refine XS.then ?_
        refine TS.seq ?_
        refine TS.block ?_
        refine TS.seq ?_
        obtain ⟨t7, h⟩ := test_some h
        have hq : (True) ∧ ((inR x 16) ∧ ((True) ∧ ((True) ∧ ((True) ∧ (True))))) := ⟨trivial, ⟨inb_ok t7, ⟨trivial, ⟨trivial, ⟨trivial, trivial⟩⟩⟩⟩⟩
        refine TS.reg [] ?_ ?_
        · apply prop_of ?_ hq
          kernel_rfl
        refine XS.then ?_
        refine TS.seq ?_
        have hq : (True) ∧ ((True) ∧ ((True) ∧ (True))) := ⟨trivial, ⟨trivial, ⟨trivial, trivial⟩⟩⟩
        refine TS.reg [] ?_ ?_
        · apply prop_of ?_ hq
          kernel_rfl
        refine XS.then ?_
        rcases bif_some h with ⟨c8, h⟩ | ⟨c9, h⟩
        · refine TS.cond ((h_Ports.getD x.toNat ((0 : Int), (0 : Int))).2 != (0 : Int)) ?_ (fun hcz => ?_) (fun hcz => by rw [c8] at hcz; cases hcz)
          · kernel_rfl
          obtain ⟨t10, h⟩ := test_some h
          obtain ⟨t11, h⟩ := test_some h
          have hq : (True) ∧ ((True) ∧ (((8 : Int) ≠ 0) ∧ ((inR (IntKind.wrap .i64 (x.tdiv (8 : Int))) m0.length) ∧ ((((IntKind.wrap .i64 (x.tdiv (8 : Int))).toNat) < m0.length ∧ (True)) ∧ ((True) ∧ (((8 : Int) ≠ 0) ∧ ((True) ∧ ((0 ≤ (IntKind.wrap .u64 ((x.tmod (8 : Int))))) ∧ ((True) ∧ ((inR (IntKind.wrap .i64 (x.tdiv (8 : Int))) m0.length) ∧ (((((IntKind.wrap .i64 (x.tdiv (8 : Int))).toNat) < m0.length ∧ (True)) ∧ m0.length = m0.length) ∧ (True)))))))))))) := ⟨trivial, ⟨trivial, ⟨by decide, ⟨inb_ok t10, ⟨⟨inR_lt (inb_ok t10), trivial⟩, ⟨trivial, ⟨by decide, ⟨trivial, ⟨of_decide_eq_true t11, ⟨trivial, ⟨inb_ok t10, ⟨⟨⟨inR_lt (inb_ok t10), trivial⟩, rfl⟩, trivial⟩⟩⟩⟩⟩⟩⟩⟩⟩⟩⟩⟩
          refine TS.reg [] ?_ ?_
          · apply prop_of ?_ hq
            kernel_rfl
          refine XS.blockEnd ?_
          refine XS.then ?_
          have hq : (True) ∧ ((True) ∧ (True)) := ⟨trivial, ⟨trivial, trivial⟩⟩
          refine TS.reg [] ?_ ?_
          · apply prop_of ?_ hq
            kernel_rfl
          refine XS.reAny [0] (mkMask 41 [5, 19, 20]) ((IntKind.wrap .i64 (x + (1 : Int))), (m0.set ((IntKind.wrap .i64 (x.tdiv (8 : Int))).toNat) (bitsI .or .u8 (m0.getD ((IntKind.wrap .i64 (x.tdiv (8 : Int))).toNat) (0 : Int)) (shlI .u8 (1 : Int) (IntKind.wrap .u64 ((x.tmod (8 : Int)))))))) h ?_
          kernel_rfl
        · refine TS.cond ((h_Ports.getD x.toNat ((0 : Int), (0 : Int))).2 != (0 : Int)) ?_ (fun hcz => by rw [c9] at hcz; cases hcz) (fun hcz => ?_)
          · kernel_rfl
          refine TS.skip ?_
          refine XS.blockEnd ?_
          refine XS.then ?_
          have hq : (True) ∧ ((True) ∧ (True)) := ⟨trivial, ⟨trivial, trivial⟩⟩
          refine TS.reg [] ?_ ?_
          · apply prop_of ?_ hq
            kernel_rfl
          refine XS.reAny [0] (mkMask 41 [5, 19, 20]) ((IntKind.wrap .i64 (x + (1 : Int))), m0) h ?_
          kernel_rfl
      · refine TS.cond (decide (x < (16 : Int))) ?_ (fun hcz => by rw [c6] at hcz; cases hcz) (fun hcz => ?_)
        · kernel_rfl
        refine TS.exit ?_
        refine XS.passE ?_
        refine XS.passE ?_
        refine XS.out ?_
        refine XS.then ?_
        refine TS.seq ?_
        have hq : (True) ∧ ((True) ∧ ((True) ∧ ((True) ∧ (True)))) := ⟨trivial, ⟨trivial, ⟨trivial, ⟨trivial, trivial⟩⟩⟩⟩
        refine TS.reg [] ?_ ?_
        · apply prop_of ?_ hq
          kernel_rfl
        refine XS.then ?_
        refine TS.ret ?_
        obtain rfl : ((strOf m0), (0 : Int)) = r := Option.some.inj h
        exact XS.fin [] ((True) ∧ ((True) ∧ (True))) (by kernel_rfl) ⟨trivial, ⟨trivial, trivial⟩⟩

/-! plugtree/plugref.HubChanges -/
def F36_l2 (n : Nat) (h_Count : Int) (h_Ports : List (Int × Int)) (k36_2 : (Int × Int) → Option ((List UInt8) × Int)) : (Int × Int) → Option ((List UInt8) × Int)
  | (vn, k) => (bif (decide (k ≥ (0 : Int))) then (bif inb k 16 then (bif (decide ((h_Ports.getD k.toNat ((0 : Int), (0 : Int))).2 > (0 : Int))) then (k36_2 ((IntKind.wrap .i64 ((IntKind.wrap .i64 (vn * (2 : Int))) + (1 : Int))), (IntKind.wrap .i64 (k - (1 : Int))))) else (k36_2 ((IntKind.wrap .i64 (vn * (2 : Int))), (IntKind.wrap .i64 (k - (1 : Int)))))) else none) else ((F65 n vn).bind fun y_4 => (bif subB y_4.length none (some (IntKind.wrap .i64 ((IntKind.wrap .i64 (h_Count.tdiv (8 : Int))) + (1 : Int)))) then (some ((y_4.take (IntKind.wrap .i64 ((IntKind.wrap .i64 (h_Count.tdiv (8 : Int))) + (1 : Int))).toNat), (0 : Int))) else none)))
def F36 (n : Nat) (h_Count : Int) (h_Ports : List (Int × Int)) : Option ((List UInt8) × Int) := ((F92 n h_Count h_Ports).bind fun y_3 => (bif (y_3 != (0 : Int)) then (some (([] : List UInt8), y_3)) else (loopF (F36_l2 n h_Count h_Ports) n ((0 : Int), h_Count))))
theorem F36_ok (n : Nat) (h_Count : Int) (h_Ports : List (Int × Int)) (r : (List UInt8) × Int) (h : F36 n h_Count h_Ports = some r) : PureC Try.prog 36 [(.st (.cons (.int .i64 h_Count) (.arr 16 (.st (.pair (.int .i64) (.int .i64))) h_Ports)))] (.tup (.cons (.str r.1) (.cons (.int .i64 r.2) .nil))) [] := by
  refine PureC.mkS Try.func36 rfl rfl ?_
  intro w0 fz0 hfz
  replace h : ((F92 n h_Count h_Ports).bind fun y_3 => (bif (y_3 != (0 : Int)) then (some (([] : List UInt8), y_3)) else (loopF (F36_l2 n h_Count h_Ports) n ((0 : Int), h_Count)))) = some r := h
  refine TS.seq ?_
  have hq : (True) ∧ ((True) ∧ ((True) ∧ (True))) := ⟨trivial, ⟨trivial, ⟨trivial, trivial⟩⟩⟩
  refine TS.reg [] ?_ ?_
  · apply prop_of ?_ hq
    kernel_rfl
  refine XS.then ?_
  refine TS.seq ?_
  refine TS.seq ?_
  obtain ⟨y_3, hx1, h⟩ := bind_some' h
  have hq : (True) ∧ ((PureC Try.prog 92 [(.st (.cons (.int .i64 h_Count) (.arr 16 (.st (.pair (.int .i64) (.int .i64))) h_Ports)))] (.int .i64 y_3) []) ∧ ((True) ∧ (True))) := ⟨trivial, ⟨F92_ok n h_Count h_Ports y_3 hx1, ⟨trivial, trivial⟩⟩⟩
  refine TS.reg [.none, (.call (.int .i64 y_3) [])] ?_ ?_
  · apply prop_of ?_ hq
    kernel_rfl
  refine XS.then ?_
  refine TS.seq ?_
  have hq : (True) ∧ ((True) ∧ (True)) := ⟨trivial, ⟨trivial, trivial⟩⟩
  refine TS.reg [] ?_ ?_
  · apply prop_of ?_ hq
    kernel_rfl
  refine XS.then ?_
  rcases bif_some h with ⟨c2, h⟩ | ⟨c3, h⟩
  · refine TS.cond (y_3 != (0 : Int)) ?_ (fun hcz => ?_) (fun hcz => by rw [c2] at hcz; cases hcz)
    · kernel_rfl
    refine TS.seq ?_
    have hq : (True) ∧ ((True) ∧ ((True) ∧ (True))) := ⟨trivial, ⟨trivial, ⟨trivial, trivial⟩⟩⟩
    refine TS.reg [] ?_ ?_
    · apply prop_of ?_ hq
      kernel_rfl
    refine XS.then ?_
    refine TS.ret ?_
    refine XS.passR ?_
    obtain rfl : (([] : List UInt8), y_3) = r := Option.some.inj h
    exact XS.fin [] ((True) ∧ ((True) ∧ (True))) (by kernel_rfl) ⟨trivial, ⟨trivial, trivial⟩⟩
  · refine TS.cond (y_3 != (0 : Int)) ?_ (fun hcz => by rw [c3] at hcz; cases hcz) (fun hcz => ?_)
    · kernel_rfl
    refine TS.skip ?_
    refine XS.then ?_
    refine TS.seq ?_
    have hq : (True) ∧ (True) := ⟨trivial, trivial⟩
    refine TS.reg [] ?_ ?_
    · apply prop_of ?_ hq
      kernel_rfl
    refine XS.then ?_
    refine TS.seq ?_
    refine TS.seq ?_
    have hq : (True) ∧ ((True) ∧ ((True) ∧ (True))) := ⟨trivial, ⟨trivial, ⟨trivial, trivial⟩⟩⟩
    refine TS.reg [] ?_ ?_
    · apply prop_of ?_ hq
      kernel_rfl
    refine XS.then ?_
    refine TS.block ?_
    refine TS.reLoop [0] (mkMask 35 [1, 5, 6]) (D := Int × Int) (fun d => match d with | (vn, k) => (mkTs 35 [(1, (.ptr 0 [])), (5, (.int .i64 vn)), (6, (.int .i64 k))], [(.box 66 (.st (.cons (.int .i64 h_Count) (.arr 16 (.st (.pair (.int .i64) (.int .i64))) h_Ports))))])) (fun n' d => loopF (F36_l2 n h_Count h_Ports) n' d = some r) n ((0 : Int), h_Count) h ?_ (fun d => loopF_zero _ d r) ?_
    · kernel_rfl
    · rintro n2 ⟨vn, k⟩ h
      replace h : (bif (decide (k ≥ (0 : Int))) then (bif inb k 16 then (bif (decide ((h_Ports.getD k.toNat ((0 : Int), (0 : Int))).2 > (0 : Int))) then ((loopF (F36_l2 n h_Count h_Ports) n2) ((IntKind.wrap .i64 ((IntKind.wrap .i64 (vn * (2 : Int))) + (1 : Int))), (IntKind.wrap .i64 (k - (1 : Int))))) else ((loopF (F36_l2 n h_Count h_Ports) n2) ((IntKind.wrap .i64 (vn * (2 : Int))), (IntKind.wrap .i64 (k - (1 : Int)))))) else none) else ((F65 n vn).bind fun y_4 => (bif subB y_4.length none (some (IntKind.wrap .i64 ((IntKind.wrap .i64 (h_Count.tdiv (8 : Int))) + (1 : Int)))) then (some ((y_4.take (IntKind.wrap .i64 ((IntKind.wrap .i64 (h_Count.tdiv (8 : Int))) + (1 : Int))).toNat), (0 : Int))) else none))) = some r := h
      refine TS.seq ?_
      refine TS.seq ?_
      have hq : (True) ∧ ((True) ∧ (True)) := ⟨trivial, ⟨trivial, trivial⟩⟩
      refine TS.reg [] ?_ ?_
      · apply prop_of ?_ hq
        kernel_rfl
      refine XS.then ?_
      rcases bif_some h with ⟨c4, h⟩ | ⟨c5, h⟩
      · refine TS.cond (decide (k ≥ (0 : Int))) ?_ (fun hcz => ?_) (fun hcz => by rw [c4] at hcz; cases hcz)
        · kernel_rfl
        refine TS.skip ?_
        refine XS.then ?_
        refine TS.seq ?_
        refine TS.block ?_
        refine TS.seq ?_
        have hq : (True) ∧ ((True) ∧ ((True) ∧ (True))) := ⟨trivial, ⟨trivial, ⟨trivial, trivial⟩⟩⟩
        refine TS.reg [] ?_ ?_
        · apply prop_of ?_ hq
          kernel_rfl
        refine XS.then ?_
        refine TS.seq ?_
        obtain ⟨t6, h⟩ := test_some h
        have hq : (True) ∧ ((True) ∧ ((inR k 16) ∧ ((True) ∧ ((k.toNat < 16 ∧ (True)) ∧ ((True) ∧ (True)))))) := ⟨trivial, ⟨trivial, ⟨inb_ok t6, ⟨trivial, ⟨⟨inR_lt (inb_ok t6), trivial⟩, ⟨trivial, trivial⟩⟩⟩⟩⟩⟩
        refine TS.reg [] ?_ ?_
        · apply prop_of ?_ hq
          kernel_rfl
        refine XS.then ?_
        rcases bif_some h with ⟨c7, h⟩ | ⟨c8, h⟩
        · refine TS.cond (decide ((h_Ports.getD k.toNat ((0 : Int), (0 : Int))).2 > (0 : Int))) ?_ (fun hcz => ?_) (fun hcz => by rw [c7] at hcz; cases hcz)
          · kernel_rfl
          have hq : (True) ∧ ((True) ∧ ((True) ∧ (True))) := ⟨trivial, ⟨trivial, ⟨trivial, trivial⟩⟩⟩
          refine TS.reg [] ?_ ?_
          · apply prop_of ?_ hq
            kernel_rfl
          refine XS.blockEnd ?_
          refine XS.then ?_
          have hq : (True) ∧ ((True) ∧ ((True) ∧ (True))) := ⟨trivial, ⟨trivial, ⟨trivial, trivial⟩⟩⟩
          refine TS.reg [] ?_ ?_
          · apply prop_of ?_ hq
            kernel_rfl
          refine XS.reAny [0] (mkMask 35 [1, 5, 6]) ((IntKind.wrap .i64 ((IntKind.wrap .i64 (vn * (2 : Int))) + (1 : Int))), (IntKind.wrap .i64 (k - (1 : Int)))) h ?_
          kernel_rfl
        · refine TS.cond (decide ((h_Ports.getD k.toNat ((0 : Int), (0 : Int))).2 > (0 : Int))) ?_ (fun hcz => by rw [c8] at hcz; cases hcz) (fun hcz => ?_)
          · kernel_rfl
          refine TS.skip ?_
          refine XS.blockEnd ?_
          refine XS.then ?_
          have hq : (True) ∧ ((True) ∧ ((True) ∧ (True))) := ⟨trivial, ⟨trivial, ⟨trivial, trivial⟩⟩⟩
          refine TS.reg [] ?_ ?_
          · apply prop_of ?_ hq
            kernel_rfl
          refine XS.reAny [0] (mkMask 35 [1, 5, 6]) ((IntKind.wrap .i64 (vn * (2 : Int))), (IntKind.wrap .i64 (k - (1 : Int)))) h ?_
          kernel_rfl
      · refine TS.cond (decide (k ≥ (0 : Int))) ?_ (fun hcz => by rw [c5] at hcz; cases hcz) (fun hcz => ?_)
        · kernel_rfl
        refine TS.exit ?_
        refine XS.passE ?_
        refine XS.passE ?_
        refine XS.out ?_
        refine XS.then ?_
        refine TS.seq ?_
        obtain ⟨y_4, hx9, h⟩ := bind_some' h
        obtain ⟨t10, h⟩ := test_some h
        have hq : ((True) ∧ ((PureC Try.prog 65 [(.int .i64 vn)] (.str y_4) []) ∧ ((True) ∧ ((True) ∧ (((8 : Int) ≠ 0) ∧ ((True) ∧ ((subC y_4.length none (some (IntKind.wrap .i64 ((IntKind.wrap .i64 (h_Count.tdiv (8 : Int))) + (1 : Int))))) ∧ (True)))))))) ∧ ((True) ∧ ((True) ∧ (True))) := ⟨⟨trivial, ⟨F65_ok n vn y_4 hx9, ⟨trivial, ⟨trivial, ⟨by decide, ⟨trivial, ⟨subB_ok t10, trivial⟩⟩⟩⟩⟩⟩⟩, ⟨trivial, ⟨trivial, trivial⟩⟩⟩
        refine TS.draw 7 [] [.none, (.call (.str y_4) [])] (by kernel_rfl) ?_ ?_
        · apply prop_of ?_ hq
          kernel_rfl
        refine XS.then ?_
        refine TS.ret ?_
        obtain rfl : ((y_4.take (IntKind.wrap .i64 ((IntKind.wrap .i64 (h_Count.tdiv (8 : Int))) + (1 : Int))).toNat), (0 : Int)) = r := Option.some.inj h
        exact XS.fin [] ((True) ∧ ((True) ∧ (True))) (by kernel_rfl) ⟨trivial, ⟨trivial, trivial⟩⟩

/-! plugtree/pluglaw.HubSays -/
def F8 (n : Nat) (h_Count : Int) (h_Ports : List (Int × Int)) (ask : List UInt8) : Option Bool := ((F33 n h_Count h_Ports ask).bind fun y_2 => ((F34 n h_Count h_Ports ask).bind fun y_3 => ((F35 n h_Count h_Ports).bind fun y_4 => ((F36 n h_Count h_Ports).bind fun y_5 => (bif (Sh.beq (.st (.pair (.int .i64) (.arr 16 (.st (.pair (.int .i64) (.int .i64)))))) (y_2.1, y_2.2.1) (y_3.1, y_3.2.1)) then (bif (y_2.2.2.1 == y_3.2.2.1) then (bif (y_2.2.2.2 == y_3.2.2.2) then (bif (y_4.1 == y_5.1) then (some (y_4.2 == y_5.2)) else (some false)) else (some false)) else (some false)) else (some false))))))
theorem F8_ok (n : Nat) (h_Count : Int) (h_Ports : List (Int × Int)) (ask : List UInt8) (r : Bool) (h : F8 n h_Count h_Ports ask = some r) : PureC Try.prog 8 [(.st (.cons (.int .i64 h_Count) (.arr 16 (.st (.pair (.int .i64) (.int .i64))) h_Ports))), (.str ask)] (.bool r) [] := by
  refine PureC.mkS Try.func8 rfl rfl ?_
  intro w0 fz0 hfz
  replace h : ((F33 n h_Count h_Ports ask).bind fun y_2 => ((F34 n h_Count h_Ports ask).bind fun y_3 => ((F35 n h_Count h_Ports).bind fun y_4 => ((F36 n h_Count h_Ports).bind fun y_5 => (bif (Sh.beq (.st (.pair (.int .i64) (.arr 16 (.st (.pair (.int .i64) (.int .i64)))))) (y_2.1, y_2.2.1) (y_3.1, y_3.2.1)) then (bif (y_2.2.2.1 == y_3.2.2.1) then (bif (y_2.2.2.2 == y_3.2.2.2) then (bif (y_4.1 == y_5.1) then (some (y_4.2 == y_5.2)) else (some false)) else (some false)) else (some false)) else (some false)))))) = some r := h
  refine TS.seq ?_
  have hq : (True) ∧ ((True) ∧ (True)) := ⟨trivial, ⟨trivial, trivial⟩⟩
  refine TS.reg [] ?_ ?_
  · apply prop_of ?_ hq
    kernel_rfl
  refine XS.then ?_
  refine TS.seq ?_
  obtain ⟨y_2, hx1, h⟩ := bind_some' h
  have hq : (True) ∧ ((True) ∧ ((PureC Try.prog 33 [(.st (.cons (.int .i64 h_Count) (.arr 16 (.st (.pair (.int .i64) (.int .i64))) h_Ports))), (.str ask)] (.tup (.cons (.st (.cons (.int .i64 y_2.1) (.arr 16 (.st (.pair (.int .i64) (.int .i64))) y_2.2.1))) (.cons (.str y_2.2.2.1) (.cons (.int .i64 y_2.2.2.2) .nil)))) []) ∧ ((True) ∧ ((True) ∧ ((True) ∧ ((True) ∧ ((True) ∧ ((True) ∧ ((True) ∧ ((True) ∧ (True))))))))))) := ⟨trivial, ⟨trivial, ⟨F33_ok n h_Count h_Ports ask y_2 hx1, ⟨trivial, ⟨trivial, ⟨trivial, ⟨trivial, ⟨trivial, ⟨trivial, ⟨trivial, ⟨trivial, trivial⟩⟩⟩⟩⟩⟩⟩⟩⟩⟩⟩
  refine TS.reg [.none, .none, (.call (.tup (.cons (.st (.cons (.int .i64 y_2.1) (.arr 16 (.st (.pair (.int .i64) (.int .i64))) y_2.2.1))) (.cons (.str y_2.2.2.1) (.cons (.int .i64 y_2.2.2.2) .nil)))) [])] ?_ ?_
  · apply prop_of ?_ hq
    kernel_rfl
  refine XS.then ?_
  refine TS.seq ?_
  obtain ⟨y_3, hx2, h⟩ := bind_some' h
  have hq : (True) ∧ ((True) ∧ ((PureC Try.prog 34 [(.st (.cons (.int .i64 h_Count) (.arr 16 (.st (.pair (.int .i64) (.int .i64))) h_Ports))), (.str ask)] (.tup (.cons (.st (.cons (.int .i64 y_3.1) (.arr 16 (.st (.pair (.int .i64) (.int .i64))) y_3.2.1))) (.cons (.str y_3.2.2.1) (.cons (.int .i64 y_3.2.2.2) .nil)))) []) ∧ ((True) ∧ ((True) ∧ ((True) ∧ ((True) ∧ ((True) ∧ ((True) ∧ ((True) ∧ ((True) ∧ (True))))))))))) := ⟨trivial, ⟨trivial, ⟨F34_ok n h_Count h_Ports ask y_3 hx2, ⟨trivial, ⟨trivial, ⟨trivial, ⟨trivial, ⟨trivial, ⟨trivial, ⟨trivial, ⟨trivial, trivial⟩⟩⟩⟩⟩⟩⟩⟩⟩⟩⟩
  refine TS.reg [.none, .none, (.call (.tup (.cons (.st (.cons (.int .i64 y_3.1) (.arr 16 (.st (.pair (.int .i64) (.int .i64))) y_3.2.1))) (.cons (.str y_3.2.2.1) (.cons (.int .i64 y_3.2.2.2) .nil)))) [])] ?_ ?_
  · apply prop_of ?_ hq
    kernel_rfl
  refine XS.then ?_
  refine TS.seq ?_
  obtain ⟨y_4, hx3, h⟩ := bind_some' h
  have hq : (True) ∧ ((PureC Try.prog 35 [(.st (.cons (.int .i64 h_Count) (.arr 16 (.st (.pair (.int .i64) (.int .i64))) h_Ports)))] (.tup (.cons (.str y_4.1) (.cons (.int .i64 y_4.2) .nil))) []) ∧ ((True) ∧ ((True) ∧ ((True) ∧ ((True) ∧ ((True) ∧ (True))))))) := ⟨trivial, ⟨F35_ok n h_Count h_Ports y_4 hx3, ⟨trivial, ⟨trivial, ⟨trivial, ⟨trivial, ⟨trivial, trivial⟩⟩⟩⟩⟩⟩⟩
  refine TS.reg [.none, (.call (.tup (.cons (.str y_4.1) (.cons (.int .i64 y_4.2) .nil))) [])] ?_ ?_
  · apply prop_of ?_ hq
    kernel_rfl
  refine XS.then ?_
  refine TS.seq ?_
  obtain ⟨y_5, hx4, h⟩ := bind_some' h
  have hq : (True) ∧ ((PureC Try.prog 36 [(.st (.cons (.int .i64 h_Count) (.arr 16 (.st (.pair (.int .i64) (.int .i64))) h_Ports)))] (.tup (.cons (.str y_5.1) (.cons (.int .i64 y_5.2) .nil))) []) ∧ ((True) ∧ ((True) ∧ ((True) ∧ ((True) ∧ ((True) ∧ (True))))))) := ⟨trivial, ⟨F36_ok n h_Count h_Ports y_5 hx4, ⟨trivial, ⟨trivial, ⟨trivial, ⟨trivial, ⟨trivial, trivial⟩⟩⟩⟩⟩⟩⟩
  refine TS.reg [.none, (.call (.tup (.cons (.str y_5.1) (.cons (.int .i64 y_5.2) .nil))) [])] ?_ ?_
  · apply prop_of ?_ hq
    kernel_rfl
  refine XS.then ?_
  refine TS.seq ?_
  rcases bif_some h with ⟨c5, h⟩ | ⟨c6, h⟩
  · rcases bif_some h with ⟨c7, h⟩ | ⟨c8, h⟩
    · rcases bif_some h with ⟨c9, h⟩ | ⟨c10, h⟩
      · rcases bif_some h with ⟨c11, h⟩ | ⟨c12, h⟩
        · have hq : (True) ∧ ((True) ∧ ((True) ∧ (((True) ∧ (Sh.beq (.st (.pair (.int .i64) (.arr 16 (.st (.pair (.int .i64) (.int .i64)))))) (y_2.1, y_2.2.1) (y_3.1, y_3.2.1)) = true) ∧ ((True) ∧ ((True) ∧ ((True) ∧ ((True) ∧ (((True) ∧ (y_2.2.2.1 == y_3.2.2.1) = true) ∧ ((True) ∧ ((True) ∧ ((True) ∧ ((True) ∧ (((True) ∧ (y_2.2.2.2 == y_3.2.2.2) = true) ∧ ((True) ∧ ((True) ∧ ((True) ∧ ((True) ∧ (((True) ∧ (y_4.1 == y_5.1) = true) ∧ ((True) ∧ ((True) ∧ ((True) ∧ ((True) ∧ ((True) ∧ (True)))))))))))))))))))))))) := ⟨trivial, ⟨trivial, ⟨trivial, ⟨⟨trivial, c5⟩, ⟨trivial, ⟨trivial, ⟨trivial, ⟨trivial, ⟨⟨trivial, c7⟩, ⟨trivial, ⟨trivial, ⟨trivial, ⟨trivial, ⟨⟨trivial, c9⟩, ⟨trivial, ⟨trivial, ⟨trivial, ⟨trivial, ⟨⟨trivial, c11⟩, ⟨trivial, ⟨trivial, ⟨trivial, ⟨trivial, ⟨trivial, trivial⟩⟩⟩⟩⟩⟩⟩⟩⟩⟩⟩⟩⟩⟩⟩⟩⟩⟩⟩⟩⟩⟩⟩⟩
          refine TS.reg [.none, .none, .none, .dec true, .none, .none, .none, .none, .dec true, .none, .none, .none, .none, .dec true, .none, .none, .none, .none, .dec true] ?_ ?_
          · apply prop_of ?_ hq
            kernel_rfl
          refine XS.then ?_
          refine TS.ret ?_
          obtain rfl : (y_4.2 == y_5.2) = r := Option.some.inj h
          exact XS.fin [] ((True) ∧ (True)) (by kernel_rfl) ⟨trivial, trivial⟩
        · have hq : (True) ∧ ((True) ∧ ((True) ∧ (((True) ∧ (Sh.beq (.st (.pair (.int .i64) (.arr 16 (.st (.pair (.int .i64) (.int .i64)))))) (y_2.1, y_2.2.1) (y_3.1, y_3.2.1)) = true) ∧ ((True) ∧ ((True) ∧ ((True) ∧ ((True) ∧ (((True) ∧ (y_2.2.2.1 == y_3.2.2.1) = true) ∧ ((True) ∧ ((True) ∧ ((True) ∧ ((True) ∧ (((True) ∧ (y_2.2.2.2 == y_3.2.2.2) = true) ∧ ((True) ∧ ((True) ∧ ((True) ∧ ((True) ∧ (((True) ∧ (y_4.1 == y_5.1) = false) ∧ ((True) ∧ ((True) ∧ (True))))))))))))))))))))) := ⟨trivial, ⟨trivial, ⟨trivial, ⟨⟨trivial, c5⟩, ⟨trivial, ⟨trivial, ⟨trivial, ⟨trivial, ⟨⟨trivial, c7⟩, ⟨trivial, ⟨trivial, ⟨trivial, ⟨trivial, ⟨⟨trivial, c9⟩, ⟨trivial, ⟨trivial, ⟨trivial, ⟨trivial, ⟨⟨trivial, c12⟩, ⟨trivial, ⟨trivial, trivial⟩⟩⟩⟩⟩⟩⟩⟩⟩⟩⟩⟩⟩⟩⟩⟩⟩⟩⟩⟩⟩
          refine TS.reg [.none, .none, .none, .dec true, .none, .none, .none, .none, .dec true, .none, .none, .none, .none, .dec true, .none, .none, .none, .none, .dec false] ?_ ?_
          · apply prop_of ?_ hq
            kernel_rfl
          refine XS.then ?_
          refine TS.ret ?_
          obtain rfl : false = r := Option.some.inj h
          exact XS.fin [] ((True) ∧ (True)) (by kernel_rfl) ⟨trivial, trivial⟩
      · have hq : (True) ∧ ((True) ∧ ((True) ∧ (((True) ∧ (Sh.beq (.st (.pair (.int .i64) (.arr 16 (.st (.pair (.int .i64) (.int .i64)))))) (y_2.1, y_2.2.1) (y_3.1, y_3.2.1)) = true) ∧ ((True) ∧ ((True) ∧ ((True) ∧ ((True) ∧ (((True) ∧ (y_2.2.2.1 == y_3.2.2.1) = true) ∧ ((True) ∧ ((True) ∧ ((True) ∧ ((True) ∧ (((True) ∧ (y_2.2.2.2 == y_3.2.2.2) = false) ∧ ((True) ∧ ((True) ∧ ((True) ∧ ((True) ∧ (True)))))))))))))))))) := ⟨trivial, ⟨trivial, ⟨trivial, ⟨⟨trivial, c5⟩, ⟨trivial, ⟨trivial, ⟨trivial, ⟨trivial, ⟨⟨trivial, c7⟩, ⟨trivial, ⟨trivial, ⟨trivial, ⟨trivial, ⟨⟨trivial, c10⟩, ⟨trivial, ⟨trivial, ⟨trivial, ⟨trivial, trivial⟩⟩⟩⟩⟩⟩⟩⟩⟩⟩⟩⟩⟩⟩⟩⟩⟩⟩
        refine TS.reg [.none, .none, .none, .dec true, .none, .none, .none, .none, .dec true, .none, .none, .none, .none, .dec false] ?_ ?_
        · apply prop_of ?_ hq
          kernel_rfl
        refine XS.then ?_
        refine TS.ret ?_
        obtain rfl : false = r := Option.some.inj h
        exact XS.fin [] ((True) ∧ (True)) (by kernel_rfl) ⟨trivial, trivial⟩
    · have hq : (True) ∧ ((True) ∧ ((True) ∧ (((True) ∧ (Sh.beq (.st (.pair (.int .i64) (.arr 16 (.st (.pair (.int .i64) (.int .i64)))))) (y_2.1, y_2.2.1) (y_3.1, y_3.2.1)) = true) ∧ ((True) ∧ ((True) ∧ ((True) ∧ ((True) ∧ (((True) ∧ (y_2.2.2.1 == y_3.2.2.1) = false) ∧ ((True) ∧ ((True) ∧ ((True) ∧ ((True) ∧ ((True) ∧ ((True) ∧ (True))))))))))))))) := ⟨trivial, ⟨trivial, ⟨trivial, ⟨⟨trivial, c5⟩, ⟨trivial, ⟨trivial, ⟨trivial, ⟨trivial, ⟨⟨trivial, c8⟩, ⟨trivial, ⟨trivial, ⟨trivial, ⟨trivial, ⟨trivial, ⟨trivial, trivial⟩⟩⟩⟩⟩⟩⟩⟩⟩⟩⟩⟩⟩⟩⟩
      refine TS.reg [.none, .none, .none, .dec true, .none, .none, .none, .none, .dec false] ?_ ?_
      · apply prop_of ?_ hq
        kernel_rfl
      refine XS.then ?_
      refine TS.ret ?_
      obtain rfl : false = r := Option.some.inj h
      exact XS.fin [] ((True) ∧ (True)) (by kernel_rfl) ⟨trivial, trivial⟩
  · have hq : (True) ∧ ((True) ∧ ((True) ∧ (((True) ∧ (Sh.beq (.st (.pair (.int .i64) (.arr 16 (.st (.pair (.int .i64) (.int .i64)))))) (y_2.1, y_2.2.1) (y_3.1, y_3.2.1)) = false) ∧ ((True) ∧ ((True) ∧ ((True) ∧ ((True) ∧ ((True) ∧ ((True) ∧ ((True) ∧ ((True) ∧ (True)))))))))))) := ⟨trivial, ⟨trivial, ⟨trivial, ⟨⟨trivial, c6⟩, ⟨trivial, ⟨trivial, ⟨trivial, ⟨trivial, ⟨trivial, ⟨trivial, ⟨trivial, ⟨trivial, trivial⟩⟩⟩⟩⟩⟩⟩⟩⟩⟩⟩⟩
    refine TS.reg [.none, .none, .none, .dec false] ?_ ?_
    · apply prop_of ?_ hq
      kernel_rfl
    refine XS.then ?_
    refine TS.ret ?_
    obtain rfl : false = r := Option.some.inj h
    exact XS.fin [] ((True) ∧ (True)) (by kernel_rfl) ⟨trivial, trivial⟩
end Go.Proofs.Ytmcjcioifgaihaa
