/- Functions of the program, as functions of values. -/
import Derived.Test.YtgcdohclbkmmdaaAm24
import Derived.Test.YtgcdohclbkmmdaaChecked
namespace Go.Proofs.Ytgcdohclbkmmdaa
open Go Go.RowKit
set_option linter.unusedVariables false
set_option maxRecDepth 100000

/-! plugtree/setup.rowOf -/
def F81 (n : Nat) (kind : Int) : Option (Int × Int × Int × Int × Int × Bool) := (bif (kind == (1 : Int)) then (some ((128 : Int), (0 : Int), (0 : Int), (0 : Int), (2 : Int), true)) else (bif (kind == (2 : Int)) then (some ((2 : Int), (1 : Int), (0 : Int), (3 : Int), (0 : Int), true)) else (bif (kind == (3 : Int)) then (some ((2 : Int), (3 : Int), (0 : Int), (3 : Int), (0 : Int), true)) else (bif (kind == (4 : Int)) then (some ((0 : Int), (5 : Int), (4 : Int), (0 : Int), (0 : Int), true)) else (bif (kind == (5 : Int)) then (some ((128 : Int), (6 : Int), (1 : Int), (1 : Int), (-1 : Int), true)) else (bif (kind == (6 : Int)) then (some ((0 : Int), (9 : Int), (2 : Int), (0 : Int), (0 : Int), true)) else (bif (kind == (7 : Int)) then (some ((128 : Int), (8 : Int), (0 : Int), (0 : Int), (1 : Int), true)) else (bif (kind == (8 : Int)) then (some ((163 : Int), (0 : Int), (0 : Int), (5 : Int), (4 : Int), true)) else (bif (kind == (9 : Int)) then (some ((35 : Int), (3 : Int), (6 : Int), (5 : Int), (0 : Int), true)) else (bif (kind == (10 : Int)) then (some ((35 : Int), (1 : Int), (6 : Int), (5 : Int), (0 : Int), true)) else (bif (kind == (11 : Int)) then (some ((33 : Int), (255 : Int), (0 : Int), (2 : Int), (0 : Int), true)) else (bif (kind == (12 : Int)) then (some ((161 : Int), (254 : Int), (0 : Int), (2 : Int), (1 : Int), true)) else (bif (kind == (13 : Int)) then (some ((33 : Int), (10 : Int), (1 : Int), (2 : Int), (0 : Int), true)) else (bif (kind == (14 : Int)) then (some ((33 : Int), (9 : Int), (7 : Int), (2 : Int), (1 : Int), true)) else (some ((0 : Int), (0 : Int), (0 : Int), (0 : Int), (0 : Int), false))))))))))))))))
theorem F81_ok (n : Nat) (kind : Int) (r : Int × Int × Int × Int × Int × Bool) (h : F81 n kind = some r) : PureC Try.prog 81 [(.int .i64 kind)] (.tup (.cons (.st (.cons (.int .u8 r.1) (.cons (.int .u8 r.2.1) (.cons (.int .i64 r.2.2.1) (.cons (.int .i64 r.2.2.2.1) (.int .i64 r.2.2.2.2.1)))))) (.cons (.bool r.2.2.2.2.2) .nil))) [] := by
  refine PureC.mkS Try.func81 rfl rfl ?_
  intro w0 fz0 hfz
  replace h : (bif (kind == (1 : Int)) then (some ((128 : Int), (0 : Int), (0 : Int), (0 : Int), (2 : Int), true)) else (bif (kind == (2 : Int)) then (some ((2 : Int), (1 : Int), (0 : Int), (3 : Int), (0 : Int), true)) else (bif (kind == (3 : Int)) then (some ((2 : Int), (3 : Int), (0 : Int), (3 : Int), (0 : Int), true)) else (bif (kind == (4 : Int)) then (some ((0 : Int), (5 : Int), (4 : Int), (0 : Int), (0 : Int), true)) else (bif (kind == (5 : Int)) then (some ((128 : Int), (6 : Int), (1 : Int), (1 : Int), (-1 : Int), true)) else (bif (kind == (6 : Int)) then (some ((0 : Int), (9 : Int), (2 : Int), (0 : Int), (0 : Int), true)) else (bif (kind == (7 : Int)) then (some ((128 : Int), (8 : Int), (0 : Int), (0 : Int), (1 : Int), true)) else (bif (kind == (8 : Int)) then (some ((163 : Int), (0 : Int), (0 : Int), (5 : Int), (4 : Int), true)) else (bif (kind == (9 : Int)) then (some ((35 : Int), (3 : Int), (6 : Int), (5 : Int), (0 : Int), true)) else (bif (kind == (10 : Int)) then (some ((35 : Int), (1 : Int), (6 : Int), (5 : Int), (0 : Int), true)) else (bif (kind == (11 : Int)) then (some ((33 : Int), (255 : Int), (0 : Int), (2 : Int), (0 : Int), true)) else (bif (kind == (12 : Int)) then (some ((161 : Int), (254 : Int), (0 : Int), (2 : Int), (1 : Int), true)) else (bif (kind == (13 : Int)) then (some ((33 : Int), (10 : Int), (1 : Int), (2 : Int), (0 : Int), true)) else (bif (kind == (14 : Int)) then (some ((33 : Int), (9 : Int), (7 : Int), (2 : Int), (1 : Int), true)) else (some ((0 : Int), (0 : Int), (0 : Int), (0 : Int), (0 : Int), false)))))))))))))))) = some r := h
  refine TS.seq ?_
  have hq : (True) ∧ ((True) ∧ (True)) := ⟨trivial, ⟨trivial, trivial⟩⟩
  refine TS.reg [] ?_ ?_
  · apply prop_of ?_ hq
    kernel_rfl
  refine XS.then ?_
  refine TS.seq ?_
  refine TS.seq ?_
  have hq : (True) ∧ (True) := ⟨trivial, trivial⟩
  refine TS.reg [] ?_ ?_
  · apply prop_of ?_ hq
    kernel_rfl
  refine XS.then ?_
  refine TS.block ?_
  refine TS.seq ?_
  have hq : (True) ∧ ((True) ∧ (True)) := ⟨trivial, ⟨trivial, trivial⟩⟩
  refine TS.reg [] ?_ ?_
  · apply prop_of ?_ hq
    kernel_rfl
  refine XS.then ?_
  rcases bif_some h with ⟨c1, h⟩ | ⟨c2, h⟩
  · refine TS.cond (kind == (1 : Int)) ?_ (fun e => ?_) (fun e => by rw [c1] at e; cases e)
    · kernel_rfl
    refine TS.seq ?_
    have hq : ((True) ∧ ((True) ∧ ((True) ∧ ((True) ∧ ((True) ∧ (True)))))) ∧ ((True) ∧ ((True) ∧ (True))) := ⟨⟨trivial, ⟨trivial, ⟨trivial, ⟨trivial, ⟨trivial, trivial⟩⟩⟩⟩⟩, ⟨trivial, ⟨trivial, trivial⟩⟩⟩
    refine TS.reg [] ?_ ?_
    · apply prop_of ?_ hq
      kernel_rfl
    refine XS.then ?_
    refine TS.ret ?_
    refine XS.blockRet ?_
    refine XS.passR ?_
    obtain rfl : ((128 : Int), (0 : Int), (0 : Int), (0 : Int), (2 : Int), true) = r := Option.some.inj h
    exact XS.fin [] ((True) ∧ ((True) ∧ (True))) (by kernel_rfl) ⟨trivial, ⟨trivial, trivial⟩⟩
  · refine TS.cond (kind == (1 : Int)) ?_ (fun e => by rw [c2] at e; cases e) (fun e => ?_)
    · kernel_rfl
    refine TS.seq ?_
    have hq : (True) ∧ ((True) ∧ (True)) := ⟨trivial, ⟨trivial, trivial⟩⟩
    refine TS.reg [] ?_ ?_
    · apply prop_of ?_ hq
      kernel_rfl
    refine XS.then ?_
    rcases bif_some h with ⟨c3, h⟩ | ⟨c4, h⟩
    · refine TS.cond (kind == (2 : Int)) ?_ (fun e => ?_) (fun e => by rw [c3] at e; cases e)
      · kernel_rfl
      refine TS.seq ?_
      have hq : ((True) ∧ ((True) ∧ ((True) ∧ ((True) ∧ ((True) ∧ (True)))))) ∧ ((True) ∧ ((True) ∧ (True))) := ⟨⟨trivial, ⟨trivial, ⟨trivial, ⟨trivial, ⟨trivial, trivial⟩⟩⟩⟩⟩, ⟨trivial, ⟨trivial, trivial⟩⟩⟩
      refine TS.reg [] ?_ ?_
      · apply prop_of ?_ hq
        kernel_rfl
      refine XS.then ?_
      refine TS.ret ?_
      refine XS.blockRet ?_
      refine XS.passR ?_
      obtain rfl : ((2 : Int), (1 : Int), (0 : Int), (3 : Int), (0 : Int), true) = r := Option.some.inj h
      exact XS.fin [] ((True) ∧ ((True) ∧ (True))) (by kernel_rfl) ⟨trivial, ⟨trivial, trivial⟩⟩
    · refine TS.cond (kind == (2 : Int)) ?_ (fun e => by rw [c4] at e; cases e) (fun e => ?_)
      · kernel_rfl
      refine TS.seq ?_
      have hq : (True) ∧ ((True) ∧ (True)) := ⟨trivial, ⟨trivial, trivial⟩⟩
      refine TS.reg [] ?_ ?_
      · apply prop_of ?_ hq
        kernel_rfl
      refine XS.then ?_
      rcases bif_some h with ⟨c5, h⟩ | ⟨c6, h⟩
      · refine TS.cond (kind == (3 : Int)) ?_ (fun e => ?_) (fun e => by rw [c5] at e; cases e)
        · kernel_rfl
        refine TS.seq ?_
        have hq : ((True) ∧ ((True) ∧ ((True) ∧ ((True) ∧ ((True) ∧ (True)))))) ∧ ((True) ∧ ((True) ∧ (True))) := ⟨⟨trivial, ⟨trivial, ⟨trivial, ⟨trivial, ⟨trivial, trivial⟩⟩⟩⟩⟩, ⟨trivial, ⟨trivial, trivial⟩⟩⟩
        refine TS.reg [] ?_ ?_
        · apply prop_of ?_ hq
          kernel_rfl
        refine XS.then ?_
        refine TS.ret ?_
        refine XS.blockRet ?_
        refine XS.passR ?_
        obtain rfl : ((2 : Int), (3 : Int), (0 : Int), (3 : Int), (0 : Int), true) = r := Option.some.inj h
        exact XS.fin [] ((True) ∧ ((True) ∧ (True))) (by kernel_rfl) ⟨trivial, ⟨trivial, trivial⟩⟩
      · refine TS.cond (kind == (3 : Int)) ?_ (fun e => by rw [c6] at e; cases e) (fun e => ?_)
        · kernel_rfl
        refine TS.seq ?_
        have hq : (True) ∧ ((True) ∧ (True)) := ⟨trivial, ⟨trivial, trivial⟩⟩
        refine TS.reg [] ?_ ?_
        · apply prop_of ?_ hq
          kernel_rfl
        refine XS.then ?_
        rcases bif_some h with ⟨c7, h⟩ | ⟨c8, h⟩
        · refine TS.cond (kind == (4 : Int)) ?_ (fun e => ?_) (fun e => by rw [c7] at e; cases e)
          · kernel_rfl
          refine TS.seq ?_
          have hq : ((True) ∧ ((True) ∧ ((True) ∧ ((True) ∧ ((True) ∧ (True)))))) ∧ ((True) ∧ ((True) ∧ (True))) := ⟨⟨trivial, ⟨trivial, ⟨trivial, ⟨trivial, ⟨trivial, trivial⟩⟩⟩⟩⟩, ⟨trivial, ⟨trivial, trivial⟩⟩⟩
          refine TS.reg [] ?_ ?_
          · apply prop_of ?_ hq
            kernel_rfl
          refine XS.then ?_
          refine TS.ret ?_
          refine XS.blockRet ?_
          refine XS.passR ?_
          obtain rfl : ((0 : Int), (5 : Int), (4 : Int), (0 : Int), (0 : Int), true) = r := Option.some.inj h
          exact XS.fin [] ((True) ∧ ((True) ∧ (True))) (by kernel_rfl) ⟨trivial, ⟨trivial, trivial⟩⟩
        · refine TS.cond (kind == (4 : Int)) ?_ (fun e => by rw [c8] at e; cases e) (fun e => ?_)
          · kernel_rfl
          refine TS.seq ?_
          have hq : (True) ∧ ((True) ∧ (True)) := ⟨trivial, ⟨trivial, trivial⟩⟩
          refine TS.reg [] ?_ ?_
          · apply prop_of ?_ hq
            kernel_rfl
          refine XS.then ?_
          rcases bif_some h with ⟨c9, h⟩ | ⟨c10, h⟩
          · refine TS.cond (kind == (5 : Int)) ?_ (fun e => ?_) (fun e => by rw [c9] at e; cases e)
            · kernel_rfl
            refine TS.seq ?_
            have hq : ((True) ∧ ((True) ∧ ((True) ∧ ((True) ∧ ((True) ∧ (True)))))) ∧ ((True) ∧ ((True) ∧ (True))) := ⟨⟨trivial, ⟨trivial, ⟨trivial, ⟨trivial, ⟨trivial, trivial⟩⟩⟩⟩⟩, ⟨trivial, ⟨trivial, trivial⟩⟩⟩
            refine TS.reg [] ?_ ?_
            · apply prop_of ?_ hq
              kernel_rfl
            refine XS.then ?_
            refine TS.ret ?_
            refine XS.blockRet ?_
            refine XS.passR ?_
            obtain rfl : ((128 : Int), (6 : Int), (1 : Int), (1 : Int), (-1 : Int), true) = r := Option.some.inj h
            exact XS.fin [] ((True) ∧ ((True) ∧ (True))) (by kernel_rfl) ⟨trivial, ⟨trivial, trivial⟩⟩
          · refine TS.cond (kind == (5 : Int)) ?_ (fun e => by rw [c10] at e; cases e) (fun e => ?_)
            · kernel_rfl
            refine TS.seq ?_
            have hq : (True) ∧ ((True) ∧ (True)) := ⟨trivial, ⟨trivial, trivial⟩⟩
            refine TS.reg [] ?_ ?_
            · apply prop_of ?_ hq
              kernel_rfl
            refine XS.then ?_
            rcases bif_some h with ⟨c11, h⟩ | ⟨c12, h⟩
            · refine TS.cond (kind == (6 : Int)) ?_ (fun e => ?_) (fun e => by rw [c11] at e; cases e)
              · kernel_rfl
              refine TS.seq ?_
              have hq : ((True) ∧ ((True) ∧ ((True) ∧ ((True) ∧ ((True) ∧ (True)))))) ∧ ((True) ∧ ((True) ∧ (True))) := ⟨⟨trivial, ⟨trivial, ⟨trivial, ⟨trivial, ⟨trivial, trivial⟩⟩⟩⟩⟩, ⟨trivial, ⟨trivial, trivial⟩⟩⟩
              refine TS.reg [] ?_ ?_
              · apply prop_of ?_ hq
                kernel_rfl
              refine XS.then ?_
              refine TS.ret ?_
              refine XS.blockRet ?_
              refine XS.passR ?_
              obtain rfl : ((0 : Int), (9 : Int), (2 : Int), (0 : Int), (0 : Int), true) = r := Option.some.inj h
              exact XS.fin [] ((True) ∧ ((True) ∧ (True))) (by kernel_rfl) ⟨trivial, ⟨trivial, trivial⟩⟩
            · refine TS.cond (kind == (6 : Int)) ?_ (fun e => by rw [c12] at e; cases e) (fun e => ?_)
              · kernel_rfl
              refine TS.seq ?_
              have hq : (True) ∧ ((True) ∧ (True)) := ⟨trivial, ⟨trivial, trivial⟩⟩
              refine TS.reg [] ?_ ?_
              · apply prop_of ?_ hq
                kernel_rfl
              refine XS.then ?_
              rcases bif_some h with ⟨c13, h⟩ | ⟨c14, h⟩
              · refine TS.cond (kind == (7 : Int)) ?_ (fun e => ?_) (fun e => by rw [c13] at e; cases e)
                · kernel_rfl
                refine TS.seq ?_
                have hq : ((True) ∧ ((True) ∧ ((True) ∧ ((True) ∧ ((True) ∧ (True)))))) ∧ ((True) ∧ ((True) ∧ (True))) := ⟨⟨trivial, ⟨trivial, ⟨trivial, ⟨trivial, ⟨trivial, trivial⟩⟩⟩⟩⟩, ⟨trivial, ⟨trivial, trivial⟩⟩⟩
                refine TS.reg [] ?_ ?_
                · apply prop_of ?_ hq
                  kernel_rfl
                refine XS.then ?_
                refine TS.ret ?_
                refine XS.blockRet ?_
                refine XS.passR ?_
                obtain rfl : ((128 : Int), (8 : Int), (0 : Int), (0 : Int), (1 : Int), true) = r := Option.some.inj h
                exact XS.fin [] ((True) ∧ ((True) ∧ (True))) (by kernel_rfl) ⟨trivial, ⟨trivial, trivial⟩⟩
              · refine TS.cond (kind == (7 : Int)) ?_ (fun e => by rw [c14] at e; cases e) (fun e => ?_)
                · kernel_rfl
                refine TS.seq ?_
                have hq : (True) ∧ ((True) ∧ (True)) := ⟨trivial, ⟨trivial, trivial⟩⟩
                refine TS.reg [] ?_ ?_
                · apply prop_of ?_ hq
                  kernel_rfl
                refine XS.then ?_
                rcases bif_some h with ⟨c15, h⟩ | ⟨c16, h⟩
                · refine TS.cond (kind == (8 : Int)) ?_ (fun e => ?_) (fun e => by rw [c15] at e; cases e)
                  · kernel_rfl
                  refine TS.seq ?_
                  have hq : ((True) ∧ ((True) ∧ ((True) ∧ ((True) ∧ ((True) ∧ (True)))))) ∧ ((True) ∧ ((True) ∧ (True))) := ⟨⟨trivial, ⟨trivial, ⟨trivial, ⟨trivial, ⟨trivial, trivial⟩⟩⟩⟩⟩, ⟨trivial, ⟨trivial, trivial⟩⟩⟩
                  refine TS.reg [] ?_ ?_
                  · apply prop_of ?_ hq
                    kernel_rfl
                  refine XS.then ?_
                  refine TS.ret ?_
                  refine XS.blockRet ?_
                  refine XS.passR ?_
                  obtain rfl : ((163 : Int), (0 : Int), (0 : Int), (5 : Int), (4 : Int), true) = r := Option.some.inj h
                  exact XS.fin [] ((True) ∧ ((True) ∧ (True))) (by kernel_rfl) ⟨trivial, ⟨trivial, trivial⟩⟩
                · refine TS.cond (kind == (8 : Int)) ?_ (fun e => by rw [c16] at e; cases e) (fun e => ?_)
                  · kernel_rfl
                  refine TS.seq ?_
                  have hq : (True) ∧ ((True) ∧ (True)) := ⟨trivial, ⟨trivial, trivial⟩⟩
                  refine TS.reg [] ?_ ?_
                  · apply prop_of ?_ hq
                    kernel_rfl
                  refine XS.then ?_
                  rcases bif_some h with ⟨c17, h⟩ | ⟨c18, h⟩
                  · refine TS.cond (kind == (9 : Int)) ?_ (fun e => ?_) (fun e => by rw [c17] at e; cases e)
                    · kernel_rfl
                    refine TS.seq ?_
                    have hq : ((True) ∧ ((True) ∧ ((True) ∧ ((True) ∧ ((True) ∧ (True)))))) ∧ ((True) ∧ ((True) ∧ (True))) := ⟨⟨trivial, ⟨trivial, ⟨trivial, ⟨trivial, ⟨trivial, trivial⟩⟩⟩⟩⟩, ⟨trivial, ⟨trivial, trivial⟩⟩⟩
                    refine TS.reg [] ?_ ?_
                    · apply prop_of ?_ hq
                      kernel_rfl
                    refine XS.then ?_
                    refine TS.ret ?_
                    refine XS.blockRet ?_
                    refine XS.passR ?_
                    obtain rfl : ((35 : Int), (3 : Int), (6 : Int), (5 : Int), (0 : Int), true) = r := Option.some.inj h
                    exact XS.fin [] ((True) ∧ ((True) ∧ (True))) (by kernel_rfl) ⟨trivial, ⟨trivial, trivial⟩⟩
                  · refine TS.cond (kind == (9 : Int)) ?_ (fun e => by rw [c18] at e; cases e) (fun e => ?_)
                    · kernel_rfl
                    refine TS.seq ?_
                    have hq : (True) ∧ ((True) ∧ (True)) := ⟨trivial, ⟨trivial, trivial⟩⟩
                    refine TS.reg [] ?_ ?_
                    · apply prop_of ?_ hq
                      kernel_rfl
                    refine XS.then ?_
                    rcases bif_some h with ⟨c19, h⟩ | ⟨c20, h⟩
                    · refine TS.cond (kind == (10 : Int)) ?_ (fun e => ?_) (fun e => by rw [c19] at e; cases e)
                      · kernel_rfl
                      refine TS.seq ?_
                      have hq : ((True) ∧ ((True) ∧ ((True) ∧ ((True) ∧ ((True) ∧ (True)))))) ∧ ((True) ∧ ((True) ∧ (True))) := ⟨⟨trivial, ⟨trivial, ⟨trivial, ⟨trivial, ⟨trivial, trivial⟩⟩⟩⟩⟩, ⟨trivial, ⟨trivial, trivial⟩⟩⟩
                      refine TS.reg [] ?_ ?_
                      · apply prop_of ?_ hq
                        kernel_rfl
                      refine XS.then ?_
                      refine TS.ret ?_
                      refine XS.blockRet ?_
                      refine XS.passR ?_
                      obtain rfl : ((35 : Int), (1 : Int), (6 : Int), (5 : Int), (0 : Int), true) = r := Option.some.inj h
                      exact XS.fin [] ((True) ∧ ((True) ∧ (True))) (by kernel_rfl) ⟨trivial, ⟨trivial, trivial⟩⟩
                    · refine TS.cond (kind == (10 : Int)) ?_ (fun e => by rw [c20] at e; cases e) (fun e => ?_)
                      · kernel_rfl
                      refine TS.seq ?_
                      have hq : (True) ∧ ((True) ∧ (True)) := ⟨trivial, ⟨trivial, trivial⟩⟩
                      refine TS.reg [] ?_ ?_
                      · apply prop_of ?_ hq
                        kernel_rfl
                      refine XS.then ?_
                      rcases bif_some h with ⟨c21, h⟩ | ⟨c22, h⟩
                      · refine TS.cond (kind == (11 : Int)) ?_ (fun e => ?_) (fun e => by rw [c21] at e; cases e)
                        · kernel_rfl
                        refine TS.seq ?_
                        have hq : ((True) ∧ ((True) ∧ ((True) ∧ ((True) ∧ ((True) ∧ (True)))))) ∧ ((True) ∧ ((True) ∧ (True))) := ⟨⟨trivial, ⟨trivial, ⟨trivial, ⟨trivial, ⟨trivial, trivial⟩⟩⟩⟩⟩, ⟨trivial, ⟨trivial, trivial⟩⟩⟩
                        refine TS.reg [] ?_ ?_
                        · apply prop_of ?_ hq
                          kernel_rfl
                        refine XS.then ?_
                        refine TS.ret ?_
                        refine XS.blockRet ?_
                        refine XS.passR ?_
                        obtain rfl : ((33 : Int), (255 : Int), (0 : Int), (2 : Int), (0 : Int), true) = r := Option.some.inj h
                        exact XS.fin [] ((True) ∧ ((True) ∧ (True))) (by kernel_rfl) ⟨trivial, ⟨trivial, trivial⟩⟩
                      · refine TS.cond (kind == (11 : Int)) ?_ (fun e => by rw [c22] at e; cases e) (fun e => ?_)
                        · kernel_rfl
                        refine TS.seq ?_
                        have hq : (True) ∧ ((True) ∧ (True)) := ⟨trivial, ⟨trivial, trivial⟩⟩
                        refine TS.reg [] ?_ ?_
                        · apply prop_of ?_ hq
                          kernel_rfl
                        refine XS.then ?_
                        rcases bif_some h with ⟨c23, h⟩ | ⟨c24, h⟩
                        · refine TS.cond (kind == (12 : Int)) ?_ (fun e => ?_) (fun e => by rw [c23] at e; cases e)
                          · kernel_rfl
                          refine TS.seq ?_
                          have hq : ((True) ∧ ((True) ∧ ((True) ∧ ((True) ∧ ((True) ∧ (True)))))) ∧ ((True) ∧ ((True) ∧ (True))) := ⟨⟨trivial, ⟨trivial, ⟨trivial, ⟨trivial, ⟨trivial, trivial⟩⟩⟩⟩⟩, ⟨trivial, ⟨trivial, trivial⟩⟩⟩
                          refine TS.reg [] ?_ ?_
                          · apply prop_of ?_ hq
                            kernel_rfl
                          refine XS.then ?_
                          refine TS.ret ?_
                          refine XS.blockRet ?_
                          refine XS.passR ?_
                          obtain rfl : ((161 : Int), (254 : Int), (0 : Int), (2 : Int), (1 : Int), true) = r := Option.some.inj h
                          exact XS.fin [] ((True) ∧ ((True) ∧ (True))) (by kernel_rfl) ⟨trivial, ⟨trivial, trivial⟩⟩
                        · refine TS.cond (kind == (12 : Int)) ?_ (fun e => by rw [c24] at e; cases e) (fun e => ?_)
                          · kernel_rfl
                          refine TS.seq ?_
                          have hq : (True) ∧ ((True) ∧ (True)) := ⟨trivial, ⟨trivial, trivial⟩⟩
                          refine TS.reg [] ?_ ?_
                          · apply prop_of ?_ hq
                            kernel_rfl
                          refine XS.then ?_
                          rcases bif_some h with ⟨c25, h⟩ | ⟨c26, h⟩
                          · refine TS.cond (kind == (13 : Int)) ?_ (fun e => ?_) (fun e => by rw [c25] at e; cases e)
                            · kernel_rfl
                            refine TS.seq ?_
                            have hq : ((True) ∧ ((True) ∧ ((True) ∧ ((True) ∧ ((True) ∧ (True)))))) ∧ ((True) ∧ ((True) ∧ (True))) := ⟨⟨trivial, ⟨trivial, ⟨trivial, ⟨trivial, ⟨trivial, trivial⟩⟩⟩⟩⟩, ⟨trivial, ⟨trivial, trivial⟩⟩⟩
                            refine TS.reg [] ?_ ?_
                            · apply prop_of ?_ hq
                              kernel_rfl
                            refine XS.then ?_
                            refine TS.ret ?_
                            refine XS.blockRet ?_
                            refine XS.passR ?_
                            obtain rfl : ((33 : Int), (10 : Int), (1 : Int), (2 : Int), (0 : Int), true) = r := Option.some.inj h
                            exact XS.fin [] ((True) ∧ ((True) ∧ (True))) (by kernel_rfl) ⟨trivial, ⟨trivial, trivial⟩⟩
                          · refine TS.cond (kind == (13 : Int)) ?_ (fun e => by rw [c26] at e; cases e) (fun e => ?_)
                            · kernel_rfl
                            refine TS.seq ?_
                            have hq : (True) ∧ ((True) ∧ (True)) := ⟨trivial, ⟨trivial, trivial⟩⟩
                            refine TS.reg [] ?_ ?_
                            · apply prop_of ?_ hq
                              kernel_rfl
                            refine XS.then ?_
                            rcases bif_some h with ⟨c27, h⟩ | ⟨c28, h⟩
                            · refine TS.cond (kind == (14 : Int)) ?_ (fun e => ?_) (fun e => by rw [c27] at e; cases e)
                              · kernel_rfl
                              refine TS.seq ?_
                              have hq : ((True) ∧ ((True) ∧ ((True) ∧ ((True) ∧ ((True) ∧ (True)))))) ∧ ((True) ∧ ((True) ∧ (True))) := ⟨⟨trivial, ⟨trivial, ⟨trivial, ⟨trivial, ⟨trivial, trivial⟩⟩⟩⟩⟩, ⟨trivial, ⟨trivial, trivial⟩⟩⟩
                              refine TS.reg [] ?_ ?_
                              · apply prop_of ?_ hq
                                kernel_rfl
                              refine XS.then ?_
                              refine TS.ret ?_
                              refine XS.blockRet ?_
                              refine XS.passR ?_
                              obtain rfl : ((33 : Int), (9 : Int), (7 : Int), (2 : Int), (1 : Int), true) = r := Option.some.inj h
                              exact XS.fin [] ((True) ∧ ((True) ∧ (True))) (by kernel_rfl) ⟨trivial, ⟨trivial, trivial⟩⟩
                            · refine TS.cond (kind == (14 : Int)) ?_ (fun e => by rw [c28] at e; cases e) (fun e => ?_)
                              · kernel_rfl
                              refine TS.skip ?_
                              refine XS.blockEnd ?_
                              refine XS.then ?_
                              refine TS.seq ?_
                              have hq : (True) ∧ ((True) ∧ ((True) ∧ (True))) := ⟨trivial, ⟨trivial, ⟨trivial, trivial⟩⟩⟩
                              refine TS.reg [] ?_ ?_
                              · apply prop_of ?_ hq
                                kernel_rfl
                              refine XS.then ?_
                              refine TS.ret ?_
                              obtain rfl : ((0 : Int), (0 : Int), (0 : Int), (0 : Int), (0 : Int), false) = r := Option.some.inj h
                              exact XS.fin [] ((True) ∧ ((True) ∧ (True))) (by kernel_rfl) ⟨trivial, ⟨trivial, trivial⟩⟩

/-! plugtree/setup.can$1 -/
def F114 (n : Nat) (low : Int) (high : Int) (x : Int) : Option Bool := (bif (decide (x ≥ low)) then (some (decide (x ≤ high))) else (some false))
theorem F114_ok (n : Nat) (low : Int) (high : Int) (x : Int) (r : Bool) (h : F114 n low high x = some r) : PureC Try.prog 114 [(.int .i64 low), (.int .i64 high), (.pv (.int .i64 x))] (.bool r) [] := by
  refine PureC.mkS Try.func114 rfl rfl ?_
  intro w0 fz0 hfz
  replace h : (bif (decide (x ≥ low)) then (some (decide (x ≤ high))) else (some false)) = some r := h
  refine TS.seq ?_
  have hq : (True) ∧ (True) := ⟨trivial, trivial⟩
  refine TS.reg [] ?_ ?_
  · apply prop_of ?_ hq
    kernel_rfl
  refine XS.then ?_
  refine TS.seq ?_
  rcases bif_some h with ⟨c1, h⟩ | ⟨c2, h⟩
  · have hq : (True) ∧ ((True) ∧ ((True) ∧ (((True) ∧ (decide (x ≥ low)) = true) ∧ ((True) ∧ ((True) ∧ ((True) ∧ ((True) ∧ ((True) ∧ (True))))))))) := ⟨trivial, ⟨trivial, ⟨trivial, ⟨⟨trivial, c1⟩, ⟨trivial, ⟨trivial, ⟨trivial, ⟨trivial, ⟨trivial, trivial⟩⟩⟩⟩⟩⟩⟩⟩⟩
    refine TS.reg [.none, .none, .none, .dec true] ?_ ?_
    · apply prop_of ?_ hq
      kernel_rfl
    refine XS.then ?_
    refine TS.ret ?_
    obtain rfl : (decide (x ≤ high)) = r := Option.some.inj h
    exact XS.fin [] ((True) ∧ (True)) (by kernel_rfl) ⟨trivial, trivial⟩
  · have hq : (True) ∧ ((True) ∧ ((True) ∧ (((True) ∧ (decide (x ≥ low)) = false) ∧ ((True) ∧ ((True) ∧ (True)))))) := ⟨trivial, ⟨trivial, ⟨trivial, ⟨⟨trivial, c2⟩, ⟨trivial, ⟨trivial, trivial⟩⟩⟩⟩⟩⟩
    refine TS.reg [.none, .none, .none, .dec false] ?_ ?_
    · apply prop_of ?_ hq
      kernel_rfl
    refine XS.then ?_
    refine TS.ret ?_
    obtain rfl : false = r := Option.some.inj h
    exact XS.fin [] ((True) ∧ (True)) (by kernel_rfl) ⟨trivial, trivial⟩

/-! plugtree/setup.can -/
def F82 (n : Nat) (what : Int) (vn : Int) : Option Bool := (bif (what == (1 : Int)) then ((F114 n (0 : Int) (65535 : Int) vn).bind fun y_2 => (some y_2)) else (bif (what == (2 : Int)) then ((F114 n (0 : Int) (255 : Int) vn).bind fun y_3 => (some y_3)) else (bif (what == (3 : Int)) then ((F114 n (0 : Int) (15 : Int) vn).bind fun y_4 => (bif y_4 then (some true) else ((F114 n (128 : Int) (143 : Int) vn).bind fun y_5 => (some y_5)))) else (bif (what == (4 : Int)) then ((F114 n (0 : Int) (127 : Int) vn).bind fun y_6 => (some y_6)) else (bif (what == (5 : Int)) then ((F114 n (1 : Int) (15 : Int) vn).bind fun y_7 => (some y_7)) else (bif (what == (6 : Int)) then ((F114 n (0 : Int) (31 : Int) vn).bind fun y_8 => (some y_8)) else (bif (what == (7 : Int)) then (some (vn == (512 : Int))) else (some (vn == (0 : Int))))))))))
theorem F82_ok (n : Nat) (what : Int) (vn : Int) (r : Bool) (h : F82 n what vn = some r) : PureC Try.prog 82 [(.int .i64 what), (.int .i64 vn)] (.bool r) [] := by
  refine PureC.mkS Try.func82 rfl rfl ?_
  intro w0 fz0 hfz
  replace h : (bif (what == (1 : Int)) then ((F114 n (0 : Int) (65535 : Int) vn).bind fun y_2 => (some y_2)) else (bif (what == (2 : Int)) then ((F114 n (0 : Int) (255 : Int) vn).bind fun y_3 => (some y_3)) else (bif (what == (3 : Int)) then ((F114 n (0 : Int) (15 : Int) vn).bind fun y_4 => (bif y_4 then (some true) else ((F114 n (128 : Int) (143 : Int) vn).bind fun y_5 => (some y_5)))) else (bif (what == (4 : Int)) then ((F114 n (0 : Int) (127 : Int) vn).bind fun y_6 => (some y_6)) else (bif (what == (5 : Int)) then ((F114 n (1 : Int) (15 : Int) vn).bind fun y_7 => (some y_7)) else (bif (what == (6 : Int)) then ((F114 n (0 : Int) (31 : Int) vn).bind fun y_8 => (some y_8)) else (bif (what == (7 : Int)) then (some (vn == (512 : Int))) else (some (vn == (0 : Int)))))))))) = some r := h
  refine TS.seq ?_
  have hq : (True) ∧ ((True) ∧ (True)) := ⟨trivial, ⟨trivial, trivial⟩⟩
  refine TS.reg [] ?_ ?_
  · apply prop_of ?_ hq
    kernel_rfl
  refine XS.then ?_
  refine TS.seq ?_
  have hq : (True) ∧ ((True) ∧ (True)) := ⟨trivial, ⟨trivial, trivial⟩⟩
  refine TS.reg [] ?_ ?_
  · apply prop_of ?_ hq
    kernel_rfl
  refine XS.then ?_
  refine TS.seq ?_
  refine TS.seq ?_
  have hq : (True) ∧ (True) := ⟨trivial, trivial⟩
  refine TS.reg [] ?_ ?_
  · apply prop_of ?_ hq
    kernel_rfl
  refine XS.then ?_
  refine TS.block ?_
  refine TS.seq ?_
  have hq : (True) ∧ ((True) ∧ (True)) := ⟨trivial, ⟨trivial, trivial⟩⟩
  refine TS.reg [] ?_ ?_
  · apply prop_of ?_ hq
    kernel_rfl
  refine XS.then ?_
  rcases bif_some h with ⟨c1, h⟩ | ⟨c2, h⟩
  · refine TS.cond (what == (1 : Int)) ?_ (fun e => ?_) (fun e => by rw [c1] at e; cases e)
    · kernel_rfl
    refine TS.seq ?_
    obtain ⟨y_2, hx3, h⟩ := bind_some' h
    have hq : (True) ∧ ((((True) ∧ ((True) ∧ ((True) ∧ (True)))) ∧ PureC Try.prog 114 [(.int .i64 (0 : Int)), (.int .i64 (65535 : Int)), (.pv (.int .i64 vn))] (.bool y_2) []) ∧ ((True) ∧ (True))) := ⟨trivial, ⟨⟨⟨trivial, ⟨trivial, ⟨trivial, trivial⟩⟩⟩, F114_ok n (0 : Int) (65535 : Int) vn y_2 hx3⟩, ⟨trivial, trivial⟩⟩⟩
    refine TS.reg [.none, (.call (.bool y_2) [])] ?_ ?_
    · apply prop_of ?_ hq
      kernel_rfl
    refine XS.then ?_
    refine TS.ret ?_
    refine XS.blockRet ?_
    refine XS.passR ?_
    obtain rfl : y_2 = r := Option.some.inj h
    exact XS.fin [] ((True) ∧ (True)) (by kernel_rfl) ⟨trivial, trivial⟩
  · refine TS.cond (what == (1 : Int)) ?_ (fun e => by rw [c2] at e; cases e) (fun e => ?_)
    · kernel_rfl
    refine TS.seq ?_
    have hq : (True) ∧ ((True) ∧ (True)) := ⟨trivial, ⟨trivial, trivial⟩⟩
    refine TS.reg [] ?_ ?_
    · apply prop_of ?_ hq
      kernel_rfl
    refine XS.then ?_
    rcases bif_some h with ⟨c4, h⟩ | ⟨c5, h⟩
    · refine TS.cond (what == (2 : Int)) ?_ (fun e => ?_) (fun e => by rw [c4] at e; cases e)
      · kernel_rfl
      refine TS.seq ?_
      obtain ⟨y_3, hx6, h⟩ := bind_some' h
      have hq : (True) ∧ ((((True) ∧ ((True) ∧ ((True) ∧ (True)))) ∧ PureC Try.prog 114 [(.int .i64 (0 : Int)), (.int .i64 (255 : Int)), (.pv (.int .i64 vn))] (.bool y_3) []) ∧ ((True) ∧ (True))) := ⟨trivial, ⟨⟨⟨trivial, ⟨trivial, ⟨trivial, trivial⟩⟩⟩, F114_ok n (0 : Int) (255 : Int) vn y_3 hx6⟩, ⟨trivial, trivial⟩⟩⟩
      refine TS.reg [.none, (.call (.bool y_3) [])] ?_ ?_
      · apply prop_of ?_ hq
        kernel_rfl
      refine XS.then ?_
      refine TS.ret ?_
      refine XS.blockRet ?_
      refine XS.passR ?_
      obtain rfl : y_3 = r := Option.some.inj h
      exact XS.fin [] ((True) ∧ (True)) (by kernel_rfl) ⟨trivial, trivial⟩
    · refine TS.cond (what == (2 : Int)) ?_ (fun e => by rw [c5] at e; cases e) (fun e => ?_)
      · kernel_rfl
      refine TS.seq ?_
      have hq : (True) ∧ ((True) ∧ (True)) := ⟨trivial, ⟨trivial, trivial⟩⟩
      refine TS.reg [] ?_ ?_
      · apply prop_of ?_ hq
        kernel_rfl
      refine XS.then ?_
      rcases bif_some h with ⟨c7, h⟩ | ⟨c8, h⟩
      · refine TS.cond (what == (3 : Int)) ?_ (fun e => ?_) (fun e => by rw [c7] at e; cases e)
        · kernel_rfl
        refine TS.seq ?_
        obtain ⟨y_4, hx9, h⟩ := bind_some' h
        rcases bif_some h with ⟨c10, h⟩ | ⟨c11, h⟩
        · have hq : (True) ∧ ((((True) ∧ ((True) ∧ ((True) ∧ (True)))) ∧ PureC Try.prog 114 [(.int .i64 (0 : Int)), (.int .i64 (15 : Int)), (.pv (.int .i64 vn))] (.bool y_4) []) ∧ (((True) ∧ y_4 = true) ∧ ((True) ∧ ((True) ∧ (True))))) := ⟨trivial, ⟨⟨⟨trivial, ⟨trivial, ⟨trivial, trivial⟩⟩⟩, F114_ok n (0 : Int) (15 : Int) vn y_4 hx9⟩, ⟨⟨trivial, c10⟩, ⟨trivial, ⟨trivial, trivial⟩⟩⟩⟩⟩
          refine TS.reg [.none, (.call (.bool y_4) []), .dec true] ?_ ?_
          · apply prop_of ?_ hq
            kernel_rfl
          refine XS.then ?_
          refine TS.ret ?_
          refine XS.blockRet ?_
          refine XS.passR ?_
          obtain rfl : true = r := Option.some.inj h
          exact XS.fin [] ((True) ∧ (True)) (by kernel_rfl) ⟨trivial, trivial⟩
        · obtain ⟨y_5, hx12, h⟩ := bind_some' h
          have hq : (True) ∧ ((((True) ∧ ((True) ∧ ((True) ∧ (True)))) ∧ PureC Try.prog 114 [(.int .i64 (0 : Int)), (.int .i64 (15 : Int)), (.pv (.int .i64 vn))] (.bool y_4) []) ∧ (((True) ∧ y_4 = false) ∧ ((True) ∧ ((((True) ∧ ((True) ∧ ((True) ∧ (True)))) ∧ PureC Try.prog 114 [(.int .i64 (128 : Int)), (.int .i64 (143 : Int)), (.pv (.int .i64 vn))] (.bool y_5) []) ∧ ((True) ∧ ((True) ∧ (True))))))) := ⟨trivial, ⟨⟨⟨trivial, ⟨trivial, ⟨trivial, trivial⟩⟩⟩, F114_ok n (0 : Int) (15 : Int) vn y_4 hx9⟩, ⟨⟨trivial, c11⟩, ⟨trivial, ⟨⟨⟨trivial, ⟨trivial, ⟨trivial, trivial⟩⟩⟩, F114_ok n (128 : Int) (143 : Int) vn y_5 hx12⟩, ⟨trivial, ⟨trivial, trivial⟩⟩⟩⟩⟩⟩⟩
          refine TS.reg [.none, (.call (.bool y_4) []), .dec false, .none, (.call (.bool y_5) [])] ?_ ?_
          · apply prop_of ?_ hq
            kernel_rfl
          refine XS.then ?_
          refine TS.ret ?_
          refine XS.blockRet ?_
          refine XS.passR ?_
          obtain rfl : y_5 = r := Option.some.inj h
          exact XS.fin [] ((True) ∧ (True)) (by kernel_rfl) ⟨trivial, trivial⟩
      · refine TS.cond (what == (3 : Int)) ?_ (fun e => by rw [c8] at e; cases e) (fun e => ?_)
        · kernel_rfl
        refine TS.seq ?_
        have hq : (True) ∧ ((True) ∧ (True)) := ⟨trivial, ⟨trivial, trivial⟩⟩
        refine TS.reg [] ?_ ?_
        · apply prop_of ?_ hq
          kernel_rfl
        refine XS.then ?_
        rcases bif_some h with ⟨c13, h⟩ | ⟨c14, h⟩
        · refine TS.cond (what == (4 : Int)) ?_ (fun e => ?_) (fun e => by rw [c13] at e; cases e)
          · kernel_rfl
          refine TS.seq ?_
          obtain ⟨y_6, hx15, h⟩ := bind_some' h
          have hq : (True) ∧ ((((True) ∧ ((True) ∧ ((True) ∧ (True)))) ∧ PureC Try.prog 114 [(.int .i64 (0 : Int)), (.int .i64 (127 : Int)), (.pv (.int .i64 vn))] (.bool y_6) []) ∧ ((True) ∧ (True))) := ⟨trivial, ⟨⟨⟨trivial, ⟨trivial, ⟨trivial, trivial⟩⟩⟩, F114_ok n (0 : Int) (127 : Int) vn y_6 hx15⟩, ⟨trivial, trivial⟩⟩⟩
          refine TS.reg [.none, (.call (.bool y_6) [])] ?_ ?_
          · apply prop_of ?_ hq
            kernel_rfl
          refine XS.then ?_
          refine TS.ret ?_
          refine XS.blockRet ?_
          refine XS.passR ?_
          obtain rfl : y_6 = r := Option.some.inj h
          exact XS.fin [] ((True) ∧ (True)) (by kernel_rfl) ⟨trivial, trivial⟩
        · refine TS.cond (what == (4 : Int)) ?_ (fun e => by rw [c14] at e; cases e) (fun e => ?_)
          · kernel_rfl
          refine TS.seq ?_
          have hq : (True) ∧ ((True) ∧ (True)) := ⟨trivial, ⟨trivial, trivial⟩⟩
          refine TS.reg [] ?_ ?_
          · apply prop_of ?_ hq
            kernel_rfl
          refine XS.then ?_
          rcases bif_some h with ⟨c16, h⟩ | ⟨c17, h⟩
          · refine TS.cond (what == (5 : Int)) ?_ (fun e => ?_) (fun e => by rw [c16] at e; cases e)
            · kernel_rfl
            refine TS.seq ?_
            obtain ⟨y_7, hx18, h⟩ := bind_some' h
            have hq : (True) ∧ ((((True) ∧ ((True) ∧ ((True) ∧ (True)))) ∧ PureC Try.prog 114 [(.int .i64 (1 : Int)), (.int .i64 (15 : Int)), (.pv (.int .i64 vn))] (.bool y_7) []) ∧ ((True) ∧ (True))) := ⟨trivial, ⟨⟨⟨trivial, ⟨trivial, ⟨trivial, trivial⟩⟩⟩, F114_ok n (1 : Int) (15 : Int) vn y_7 hx18⟩, ⟨trivial, trivial⟩⟩⟩
            refine TS.reg [.none, (.call (.bool y_7) [])] ?_ ?_
            · apply prop_of ?_ hq
              kernel_rfl
            refine XS.then ?_
            refine TS.ret ?_
            refine XS.blockRet ?_
            refine XS.passR ?_
            obtain rfl : y_7 = r := Option.some.inj h
            exact XS.fin [] ((True) ∧ (True)) (by kernel_rfl) ⟨trivial, trivial⟩
          · refine TS.cond (what == (5 : Int)) ?_ (fun e => by rw [c17] at e; cases e) (fun e => ?_)
            · kernel_rfl
            refine TS.seq ?_
            have hq : (True) ∧ ((True) ∧ (True)) := ⟨trivial, ⟨trivial, trivial⟩⟩
            refine TS.reg [] ?_ ?_
            · apply prop_of ?_ hq
              kernel_rfl
            refine XS.then ?_
            rcases bif_some h with ⟨c19, h⟩ | ⟨c20, h⟩
            · refine TS.cond (what == (6 : Int)) ?_ (fun e => ?_) (fun e => by rw [c19] at e; cases e)
              · kernel_rfl
              refine TS.seq ?_
              obtain ⟨y_8, hx21, h⟩ := bind_some' h
              have hq : (True) ∧ ((((True) ∧ ((True) ∧ ((True) ∧ (True)))) ∧ PureC Try.prog 114 [(.int .i64 (0 : Int)), (.int .i64 (31 : Int)), (.pv (.int .i64 vn))] (.bool y_8) []) ∧ ((True) ∧ (True))) := ⟨trivial, ⟨⟨⟨trivial, ⟨trivial, ⟨trivial, trivial⟩⟩⟩, F114_ok n (0 : Int) (31 : Int) vn y_8 hx21⟩, ⟨trivial, trivial⟩⟩⟩
              refine TS.reg [.none, (.call (.bool y_8) [])] ?_ ?_
              · apply prop_of ?_ hq
                kernel_rfl
              refine XS.then ?_
              refine TS.ret ?_
              refine XS.blockRet ?_
              refine XS.passR ?_
              obtain rfl : y_8 = r := Option.some.inj h
              exact XS.fin [] ((True) ∧ (True)) (by kernel_rfl) ⟨trivial, trivial⟩
            · refine TS.cond (what == (6 : Int)) ?_ (fun e => by rw [c20] at e; cases e) (fun e => ?_)
              · kernel_rfl
              refine TS.seq ?_
              have hq : (True) ∧ ((True) ∧ (True)) := ⟨trivial, ⟨trivial, trivial⟩⟩
              refine TS.reg [] ?_ ?_
              · apply prop_of ?_ hq
                kernel_rfl
              refine XS.then ?_
              rcases bif_some h with ⟨c22, h⟩ | ⟨c23, h⟩
              · refine TS.cond (what == (7 : Int)) ?_ (fun e => ?_) (fun e => by rw [c22] at e; cases e)
                · kernel_rfl
                refine TS.seq ?_
                have hq : (True) ∧ ((True) ∧ ((True) ∧ (True))) := ⟨trivial, ⟨trivial, ⟨trivial, trivial⟩⟩⟩
                refine TS.reg [] ?_ ?_
                · apply prop_of ?_ hq
                  kernel_rfl
                refine XS.then ?_
                refine TS.ret ?_
                refine XS.blockRet ?_
                refine XS.passR ?_
                obtain rfl : (vn == (512 : Int)) = r := Option.some.inj h
                exact XS.fin [] ((True) ∧ (True)) (by kernel_rfl) ⟨trivial, trivial⟩
              · refine TS.cond (what == (7 : Int)) ?_ (fun e => by rw [c23] at e; cases e) (fun e => ?_)
                · kernel_rfl
                refine TS.skip ?_
                refine XS.blockEnd ?_
                refine XS.then ?_
                refine TS.seq ?_
                have hq : (True) ∧ ((True) ∧ ((True) ∧ (True))) := ⟨trivial, ⟨trivial, ⟨trivial, trivial⟩⟩⟩
                refine TS.reg [] ?_ ?_
                · apply prop_of ?_ hq
                  kernel_rfl
                refine XS.then ?_
                refine TS.ret ?_
                obtain rfl : (vn == (0 : Int)) = r := Option.some.inj h
                exact XS.fin [] ((True) ∧ (True)) (by kernel_rfl) ⟨trivial, trivial⟩

/-! plugtree/setup.Write -/
def F29_l6 (n : Nat) (a_Value : Int) (a_Index : Int) (a_Length : Int) (length : Bool) (k29_6 : (Int × (List Int)) → Option ((List UInt8) × Int)) : (Int × (List Int)) → Option ((List UInt8) × Int)
  | (x_2, m0) => (bif (decide (x_2 < (([a_Value, a_Index, a_Length].length : Nat) : Int))) then (bif inb x_2 ([a_Value, a_Index, a_Length].length) then (bif (decide (m0.length + ([(IntKind.wrap .u8 (([a_Value, a_Index, a_Length].getD x_2.toNat (0 : Int)))), (IntKind.wrap .u8 ((shrI .i64 ([a_Value, a_Index, a_Length].getD x_2.toNat (0 : Int)) (8 : Int))))]).length ≤ 17179869184)) then (k29_6 ((IntKind.wrap .i64 (x_2 + (1 : Int))), (m0 ++ [(IntKind.wrap .u8 (([a_Value, a_Index, a_Length].getD x_2.toNat (0 : Int)))), (IntKind.wrap .u8 ((shrI .i64 ([a_Value, a_Index, a_Length].getD x_2.toNat (0 : Int)) (8 : Int))))]))) else none) else none) else (some ((strOf m0), (0 : Int))))
def F29_j5 (n : Nat) (a_Value : Int) (a_Index : Int) (a_Length : Int) (y_3 : Int × Int × Int × Int × Int × Bool) (length : Bool) : Bool → Option ((List UInt8) × Int)
  | x => (bif x then (some (([] : List UInt8), (1 : Int))) else (loopF (F29_l6 n a_Value a_Index a_Length length) n ((0 : Int), [y_3.1, y_3.2.1])))
def F29_j4 (n : Nat) (a_Value : Int) (a_Index : Int) (a_Length : Int) (y_3 : Int × Int × Int × Int × Int × Bool) : Bool → Option ((List UInt8) × Int)
  | length => (bif (!y_3.2.2.2.2.2) then (F29_j5 n a_Value a_Index a_Length y_3 length true) else ((F82 n y_3.2.2.1 a_Value).bind fun y_4 => (bif (!y_4) then (F29_j5 n a_Value a_Index a_Length y_3 length true) else ((F82 n y_3.2.2.2.1 a_Index).bind fun y_5 => (bif (!y_5) then (F29_j5 n a_Value a_Index a_Length y_3 length true) else (F29_j5 n a_Value a_Index a_Length y_3 length (!length)))))))
def F29 (n : Nat) (a_Kind : Int) (a_Value : Int) (a_Index : Int) (a_Length : Int) : Option ((List UInt8) × Int) := ((F81 n a_Kind).bind fun y_3 => (bif (a_Length == y_3.2.2.2.2.1) then (F29_j4 n a_Value a_Index a_Length y_3 true) else (bif (decide (y_3.2.2.2.2.1 < (0 : Int))) then ((F82 n (1 : Int) a_Length).bind fun y_6 => (F29_j4 n a_Value a_Index a_Length y_3 y_6)) else (F29_j4 n a_Value a_Index a_Length y_3 false))))
theorem F29_ok (n : Nat) (a_Kind : Int) (a_Value : Int) (a_Index : Int) (a_Length : Int) (r : (List UInt8) × Int) (h : F29 n a_Kind a_Value a_Index a_Length = some r) : PureC Try.prog 29 [(.st (.cons (.int .i64 a_Kind) (.cons (.int .i64 a_Value) (.cons (.int .i64 a_Index) (.int .i64 a_Length)))))] (.tup (.cons (.str r.1) (.cons (.int .i64 r.2) .nil))) [] := by
  refine PureC.mkS Try.func29 rfl rfl ?_
  intro w0 fz0 hfz
  replace h : ((F81 n a_Kind).bind fun y_3 => (bif (a_Length == y_3.2.2.2.2.1) then (F29_j4 n a_Value a_Index a_Length y_3 true) else (bif (decide (y_3.2.2.2.2.1 < (0 : Int))) then ((F82 n (1 : Int) a_Length).bind fun y_6 => (F29_j4 n a_Value a_Index a_Length y_3 y_6)) else (F29_j4 n a_Value a_Index a_Length y_3 false)))) = some r := h
  refine TS.seq ?_
  have hq : (True) ∧ ((True) ∧ ((True) ∧ (True))) := ⟨trivial, ⟨trivial, ⟨trivial, trivial⟩⟩⟩
  refine TS.reg [] ?_ ?_
  · apply prop_of ?_ hq
    kernel_rfl
  refine XS.then ?_
  refine TS.seq ?_
  obtain ⟨y_3, hx1, h⟩ := bind_some' h
  have hq : (True) ∧ ((True) ∧ ((PureC Try.prog 81 [(.int .i64 a_Kind)] (.tup (.cons (.st (.cons (.int .u8 y_3.1) (.cons (.int .u8 y_3.2.1) (.cons (.int .i64 y_3.2.2.1) (.cons (.int .i64 y_3.2.2.2.1) (.int .i64 y_3.2.2.2.2.1)))))) (.cons (.bool y_3.2.2.2.2.2) .nil))) []) ∧ ((True) ∧ ((True) ∧ ((True) ∧ ((True) ∧ ((True) ∧ ((True) ∧ (True))))))))) := ⟨trivial, ⟨trivial, ⟨F81_ok n a_Kind y_3 hx1, ⟨trivial, ⟨trivial, ⟨trivial, ⟨trivial, ⟨trivial, ⟨trivial, trivial⟩⟩⟩⟩⟩⟩⟩⟩⟩
  refine TS.reg [.none, .none, (.call (.tup (.cons (.st (.cons (.int .u8 y_3.1) (.cons (.int .u8 y_3.2.1) (.cons (.int .i64 y_3.2.2.1) (.cons (.int .i64 y_3.2.2.2.1) (.int .i64 y_3.2.2.2.2.1)))))) (.cons (.bool y_3.2.2.2.2.2) .nil))) [])] ?_ ?_
  · apply prop_of ?_ hq
    kernel_rfl
  refine XS.then ?_
  refine TS.seq ?_
  refine TS.cut (D := Bool) (fun d => match d with | length => (mkTs 81 [(1, (.ptr 0 [])), (4, (.ptr 1 [])), (5, (.bool y_3.2.2.2.2.2)), (6, (.bool length))], [(.box 45 (.st (.cons (.int .i64 a_Kind) (.cons (.int .i64 a_Value) (.cons (.int .i64 a_Index) (.int .i64 a_Length)))))), (.box 112 (.st (.cons (.int .u8 y_3.1) (.cons (.int .u8 y_3.2.1) (.cons (.int .i64 y_3.2.2.1) (.cons (.int .i64 y_3.2.2.2.1) (.int .i64 y_3.2.2.2.2.1)))))))])) (fun d => F29_j4 n a_Value a_Index a_Length y_3 d = some r) ?_ ?_
  · rintro length h
    replace h : (bif (!y_3.2.2.2.2.2) then (F29_j5 n a_Value a_Index a_Length y_3 length true) else ((F82 n y_3.2.2.1 a_Value).bind fun y_4 => (bif (!y_4) then (F29_j5 n a_Value a_Index a_Length y_3 length true) else ((F82 n y_3.2.2.2.1 a_Index).bind fun y_5 => (bif (!y_5) then (F29_j5 n a_Value a_Index a_Length y_3 length true) else (F29_j5 n a_Value a_Index a_Length y_3 length (!length))))))) = some r := h
    refine XS.then ?_
    refine TS.seq ?_
    refine TS.seq ?_
    refine TS.cut (D := Bool) (fun d => match d with | x => (mkTs 81 [(1, (.ptr 0 [])), (4, (.ptr 1 [])), (52, (.bool x))], [(.box 45 (.st (.cons (.int .i64 a_Kind) (.cons (.int .i64 a_Value) (.cons (.int .i64 a_Index) (.int .i64 a_Length)))))), (.box 112 (.st (.cons (.int .u8 y_3.1) (.cons (.int .u8 y_3.2.1) (.cons (.int .i64 y_3.2.2.1) (.cons (.int .i64 y_3.2.2.2.1) (.int .i64 y_3.2.2.2.2.1)))))))])) (fun d => F29_j5 n a_Value a_Index a_Length y_3 length d = some r) ?_ ?_
    · rintro x h
      replace h : (bif x then (some (([] : List UInt8), (1 : Int))) else (loopF (F29_l6 n a_Value a_Index a_Length length) n ((0 : Int), [y_3.1, y_3.2.1]))) = some r := h
      refine XS.then ?_
      rcases bif_some h with ⟨c2, h⟩ | ⟨c3, h⟩
      · refine TS.cond x ?_ (fun e => ?_) (fun e => by rw [c2] at e; cases e)
        · kernel_rfl
        refine TS.seq ?_
        have hq : (True) ∧ ((True) ∧ (True)) := ⟨trivial, ⟨trivial, trivial⟩⟩
        refine TS.reg [] ?_ ?_
        · apply prop_of ?_ hq
          kernel_rfl
        refine XS.then ?_
        refine TS.ret ?_
        refine XS.passR ?_
        obtain rfl : (([] : List UInt8), (1 : Int)) = r := Option.some.inj h
        exact XS.fin [] ((True) ∧ ((True) ∧ (True))) (by kernel_rfl) ⟨trivial, ⟨trivial, trivial⟩⟩
      · refine TS.cond x ?_ (fun e => by rw [c3] at e; cases e) (fun e => ?_)
        · kernel_rfl
        refine TS.skip ?_
        refine XS.then ?_
        refine TS.seq ?_
        have hq : (True) ∧ ((True) ∧ ((True) ∧ ((True) ∧ (((0 < 2 ∧ True) ∧ ((1 < 2 ∧ True) ∧ (True))) ∧ ((True) ∧ (True)))))) := ⟨trivial, ⟨trivial, ⟨trivial, ⟨trivial, ⟨⟨⟨by decide, trivial⟩, ⟨⟨by decide, trivial⟩, trivial⟩⟩, ⟨trivial, trivial⟩⟩⟩⟩⟩⟩
        refine TS.reg [] ?_ ?_
        · apply prop_of ?_ hq
          kernel_rfl
        refine XS.then ?_
        refine TS.seq ?_
        refine TS.seq ?_
        have hq : (True) ∧ ((True) ∧ ((True) ∧ ((True) ∧ ((True) ∧ ((True) ∧ (((0 < 3 ∧ True) ∧ ((1 < 3 ∧ True) ∧ ((2 < 3 ∧ True) ∧ (True)))) ∧ ((True) ∧ ((True) ∧ (True))))))))) := ⟨trivial, ⟨trivial, ⟨trivial, ⟨trivial, ⟨trivial, ⟨trivial, ⟨⟨⟨by decide, trivial⟩, ⟨⟨by decide, trivial⟩, ⟨⟨by decide, trivial⟩, trivial⟩⟩⟩, ⟨trivial, ⟨trivial, trivial⟩⟩⟩⟩⟩⟩⟩⟩⟩
        refine TS.reg [] ?_ ?_
        · apply prop_of ?_ hq
          kernel_rfl
        refine XS.then ?_
        refine TS.block ?_
        refine TS.reLoop [2, 3] (mkMask 81 [7, 64, 65, 66]) (D := Int × (List Int)) (fun d => match d with | (x_2, m0) => (mkTs 81 [(7, (.row 0)), (64, (.row 1)), (65, (.int .i64 (([a_Value, a_Index, a_Length].length : Nat) : Int))), (66, (.int .i64 x_2))], [(.row 5 (.int .u8) m0), (.row 3 (.int .i64) [a_Value, a_Index, a_Length])])) (fun n' d => loopF (F29_l6 n a_Value a_Index a_Length length) n' d = some r) n ((0 : Int), [y_3.1, y_3.2.1]) h ?_ (fun d => loopF_zero _ d r) ?_
        · kernel_rfl
        · rintro n6 ⟨x_2, m0⟩ h
          replace h : (bif (decide (x_2 < (([a_Value, a_Index, a_Length].length : Nat) : Int))) then (bif inb x_2 ([a_Value, a_Index, a_Length].length) then (bif (decide (m0.length + ([(IntKind.wrap .u8 (([a_Value, a_Index, a_Length].getD x_2.toNat (0 : Int)))), (IntKind.wrap .u8 ((shrI .i64 ([a_Value, a_Index, a_Length].getD x_2.toNat (0 : Int)) (8 : Int))))]).length ≤ 17179869184)) then ((loopF (F29_l6 n a_Value a_Index a_Length length) n6) ((IntKind.wrap .i64 (x_2 + (1 : Int))), (m0 ++ [(IntKind.wrap .u8 (([a_Value, a_Index, a_Length].getD x_2.toNat (0 : Int)))), (IntKind.wrap .u8 ((shrI .i64 ([a_Value, a_Index, a_Length].getD x_2.toNat (0 : Int)) (8 : Int))))]))) else none) else none) else (some ((strOf m0), (0 : Int)))) = some r := h
          refine TS.seq ?_
          have hq : (True) ∧ (True) := ⟨trivial, trivial⟩
          refine TS.reg [] ?_ ?_
          · apply prop_of ?_ hq
            kernel_rfl
          refine XS.then ?_
          refine TS.seq ?_
          rcases bif_some h with ⟨c4, h⟩ | ⟨c5, h⟩
          · refine TS.cond (decide (x_2 < (([a_Value, a_Index, a_Length].length : Nat) : Int))) ?_ (fun e => ?_) (fun e => by rw [c4] at e; cases e)
            · kernel_rfl
            refine TS.skip ?_
            refine XS.then ?_
            refine TS.seq ?_
            refine TS.block ?_
            refine TS.seq ?_
            obtain ⟨t6, h⟩ := test_some h
            have hq : (inR x_2 ([a_Value, a_Index, a_Length].length)) ∧ ((x_2.toNat < [a_Value, a_Index, a_Length].length ∧ (True)) ∧ ((True) ∧ (True))) := ⟨inb_ok t6, ⟨⟨inR_lt (inb_ok t6), trivial⟩, ⟨trivial, trivial⟩⟩⟩
            refine TS.reg [] ?_ ?_
            · apply prop_of ?_ hq
              kernel_rfl
            refine XS.then ?_
            obtain ⟨t7, h⟩ := test_some h
            have hq : (True) ∧ ((True) ∧ ((True) ∧ ((True) ∧ ((0 ≤ (8 : Int)) ∧ ((True) ∧ (((0 < 2 ∧ True) ∧ ((1 < 2 ∧ True) ∧ (True))) ∧ ((m0.length + ([(IntKind.wrap .u8 (([a_Value, a_Index, a_Length].getD x_2.toNat (0 : Int)))), (IntKind.wrap .u8 ((shrI .i64 ([a_Value, a_Index, a_Length].getD x_2.toNat (0 : Int)) (8 : Int))))]).length ≤ 17179869184) ∧ ((True) ∧ (True))))))))) := ⟨trivial, ⟨trivial, ⟨trivial, ⟨trivial, ⟨by decide, ⟨trivial, ⟨⟨⟨by decide, trivial⟩, ⟨⟨by decide, trivial⟩, trivial⟩⟩, ⟨of_decide_eq_true t7, ⟨trivial, trivial⟩⟩⟩⟩⟩⟩⟩⟩⟩
            refine TS.reg [] ?_ ?_
            · apply prop_of ?_ hq
              kernel_rfl
            refine XS.blockEnd ?_
            refine XS.then ?_
            have hq : (True) ∧ ((True) ∧ (True)) := ⟨trivial, ⟨trivial, trivial⟩⟩
            refine TS.reg [] ?_ ?_
            · apply prop_of ?_ hq
              kernel_rfl
            refine XS.reAny [3, 1] (mkMask 81 [7, 64, 65, 66]) ((IntKind.wrap .i64 (x_2 + (1 : Int))), (m0 ++ [(IntKind.wrap .u8 (([a_Value, a_Index, a_Length].getD x_2.toNat (0 : Int)))), (IntKind.wrap .u8 ((shrI .i64 ([a_Value, a_Index, a_Length].getD x_2.toNat (0 : Int)) (8 : Int))))])) h ?_
            kernel_rfl
          · refine TS.cond (decide (x_2 < (([a_Value, a_Index, a_Length].length : Nat) : Int))) ?_ (fun e => by rw [c5] at e; cases e) (fun e => ?_)
            · kernel_rfl
            refine TS.exit ?_
            refine XS.passE ?_
            refine XS.passE ?_
            refine XS.out ?_
            refine XS.then ?_
            refine TS.seq ?_
            have hq : (True) ∧ ((True) ∧ ((True) ∧ ((True) ∧ (True)))) := ⟨trivial, ⟨trivial, ⟨trivial, ⟨trivial, trivial⟩⟩⟩⟩
            refine TS.reg [] ?_ ?_
            · apply prop_of ?_ hq
              kernel_rfl
            refine XS.then ?_
            refine TS.ret ?_
            obtain rfl : ((strOf m0), (0 : Int)) = r := Option.some.inj h
            exact XS.fin [] ((True) ∧ ((True) ∧ (True))) (by kernel_rfl) ⟨trivial, ⟨trivial, trivial⟩⟩
    · rcases bif_some h with ⟨c8, h⟩ | ⟨c9, h⟩
      · have hq : (True) ∧ ((True) ∧ (((True) ∧ (!y_3.2.2.2.2.2) = true) ∧ ((True) ∧ ((True) ∧ ((True) ∧ ((True) ∧ ((True) ∧ (True)))))))) := ⟨trivial, ⟨trivial, ⟨⟨trivial, c8⟩, ⟨trivial, ⟨trivial, ⟨trivial, ⟨trivial, ⟨trivial, trivial⟩⟩⟩⟩⟩⟩⟩⟩
        refine TS.reg [.none, .none, .dec true] ?_ ?_
        · apply prop_of ?_ hq
          kernel_rfl
        refine XS.reAny [0, 1] (mkMask 81 [1, 4, 52]) true h ?_
        kernel_rfl
      · obtain ⟨y_4, hx10, h⟩ := bind_some' h
        rcases bif_some h with ⟨c11, h⟩ | ⟨c12, h⟩
        · have hq : (True) ∧ ((True) ∧ (((True) ∧ (!y_3.2.2.2.2.2) = false) ∧ ((True) ∧ ((True) ∧ ((True) ∧ ((True) ∧ ((PureC Try.prog 82 [(.int .i64 y_3.2.2.1), (.int .i64 a_Value)] (.bool y_4) []) ∧ ((True) ∧ ((True) ∧ (((True) ∧ (!y_4) = true) ∧ ((True) ∧ ((True) ∧ ((True) ∧ (True)))))))))))))) := ⟨trivial, ⟨trivial, ⟨⟨trivial, c9⟩, ⟨trivial, ⟨trivial, ⟨trivial, ⟨trivial, ⟨F82_ok n y_3.2.2.1 a_Value y_4 hx10, ⟨trivial, ⟨trivial, ⟨⟨trivial, c11⟩, ⟨trivial, ⟨trivial, ⟨trivial, trivial⟩⟩⟩⟩⟩⟩⟩⟩⟩⟩⟩⟩⟩⟩
          refine TS.reg [.none, .none, .dec false, .none, .none, .none, .none, (.call (.bool y_4) []), .none, .none, .dec true] ?_ ?_
          · apply prop_of ?_ hq
            kernel_rfl
          refine XS.reAny [0, 1] (mkMask 81 [1, 4, 52]) true h ?_
          kernel_rfl
        · obtain ⟨y_5, hx13, h⟩ := bind_some' h
          rcases bif_some h with ⟨c14, h⟩ | ⟨c15, h⟩
          · have hq : (True) ∧ ((True) ∧ (((True) ∧ (!y_3.2.2.2.2.2) = false) ∧ ((True) ∧ ((True) ∧ ((True) ∧ ((True) ∧ ((PureC Try.prog 82 [(.int .i64 y_3.2.2.1), (.int .i64 a_Value)] (.bool y_4) []) ∧ ((True) ∧ ((True) ∧ (((True) ∧ (!y_4) = false) ∧ ((True) ∧ ((True) ∧ ((True) ∧ ((True) ∧ ((PureC Try.prog 82 [(.int .i64 y_3.2.2.2.1), (.int .i64 a_Index)] (.bool y_5) []) ∧ ((True) ∧ ((True) ∧ (((True) ∧ (!y_5) = true) ∧ ((True) ∧ (True)))))))))))))))))))) := ⟨trivial, ⟨trivial, ⟨⟨trivial, c9⟩, ⟨trivial, ⟨trivial, ⟨trivial, ⟨trivial, ⟨F82_ok n y_3.2.2.1 a_Value y_4 hx10, ⟨trivial, ⟨trivial, ⟨⟨trivial, c12⟩, ⟨trivial, ⟨trivial, ⟨trivial, ⟨trivial, ⟨F82_ok n y_3.2.2.2.1 a_Index y_5 hx13, ⟨trivial, ⟨trivial, ⟨⟨trivial, c14⟩, ⟨trivial, trivial⟩⟩⟩⟩⟩⟩⟩⟩⟩⟩⟩⟩⟩⟩⟩⟩⟩⟩⟩⟩
            refine TS.reg [.none, .none, .dec false, .none, .none, .none, .none, (.call (.bool y_4) []), .none, .none, .dec false, .none, .none, .none, .none, (.call (.bool y_5) []), .none, .none, .dec true] ?_ ?_
            · apply prop_of ?_ hq
              kernel_rfl
            refine XS.reAny [0, 1] (mkMask 81 [1, 4, 52]) true h ?_
            kernel_rfl
          · have hq : (True) ∧ ((True) ∧ (((True) ∧ (!y_3.2.2.2.2.2) = false) ∧ ((True) ∧ ((True) ∧ ((True) ∧ ((True) ∧ ((PureC Try.prog 82 [(.int .i64 y_3.2.2.1), (.int .i64 a_Value)] (.bool y_4) []) ∧ ((True) ∧ ((True) ∧ (((True) ∧ (!y_4) = false) ∧ ((True) ∧ ((True) ∧ ((True) ∧ ((True) ∧ ((PureC Try.prog 82 [(.int .i64 y_3.2.2.2.1), (.int .i64 a_Index)] (.bool y_5) []) ∧ ((True) ∧ ((True) ∧ (((True) ∧ (!y_5) = false) ∧ ((True) ∧ ((True) ∧ ((True) ∧ (True)))))))))))))))))))))) := ⟨trivial, ⟨trivial, ⟨⟨trivial, c9⟩, ⟨trivial, ⟨trivial, ⟨trivial, ⟨trivial, ⟨F82_ok n y_3.2.2.1 a_Value y_4 hx10, ⟨trivial, ⟨trivial, ⟨⟨trivial, c12⟩, ⟨trivial, ⟨trivial, ⟨trivial, ⟨trivial, ⟨F82_ok n y_3.2.2.2.1 a_Index y_5 hx13, ⟨trivial, ⟨trivial, ⟨⟨trivial, c15⟩, ⟨trivial, ⟨trivial, ⟨trivial, trivial⟩⟩⟩⟩⟩⟩⟩⟩⟩⟩⟩⟩⟩⟩⟩⟩⟩⟩⟩⟩⟩⟩
            refine TS.reg [.none, .none, .dec false, .none, .none, .none, .none, (.call (.bool y_4) []), .none, .none, .dec false, .none, .none, .none, .none, (.call (.bool y_5) []), .none, .none, .dec false] ?_ ?_
            · apply prop_of ?_ hq
              kernel_rfl
            refine XS.reAny [0, 1] (mkMask 81 [1, 4, 52]) (!length) h ?_
            kernel_rfl
  · rcases bif_some h with ⟨c16, h⟩ | ⟨c17, h⟩
    · have hq : (True) ∧ ((True) ∧ ((True) ∧ ((True) ∧ ((True) ∧ (((True) ∧ (a_Length == y_3.2.2.2.2.1) = true) ∧ ((True) ∧ ((True) ∧ (True)))))))) := ⟨trivial, ⟨trivial, ⟨trivial, ⟨trivial, ⟨trivial, ⟨⟨trivial, c16⟩, ⟨trivial, ⟨trivial, trivial⟩⟩⟩⟩⟩⟩⟩⟩
      refine TS.reg [.none, .none, .none, .none, .none, .dec true] ?_ ?_
      · apply prop_of ?_ hq
        kernel_rfl
      refine XS.reAny [0, 1] (mkMask 81 [1, 4, 5, 6]) true h ?_
      kernel_rfl
    · rcases bif_some h with ⟨c18, h⟩ | ⟨c19, h⟩
      · obtain ⟨y_6, hx20, h⟩ := bind_some' h
        have hq : (True) ∧ ((True) ∧ ((True) ∧ ((True) ∧ ((True) ∧ (((True) ∧ (a_Length == y_3.2.2.2.2.1) = false) ∧ ((True) ∧ ((True) ∧ ((True) ∧ (((True) ∧ (decide (y_3.2.2.2.2.1 < (0 : Int))) = true) ∧ ((True) ∧ ((True) ∧ ((PureC Try.prog 82 [(.int .i64 (1 : Int)), (.int .i64 a_Length)] (.bool y_6) []) ∧ ((True) ∧ ((True) ∧ ((True) ∧ (True)))))))))))))))) := ⟨trivial, ⟨trivial, ⟨trivial, ⟨trivial, ⟨trivial, ⟨⟨trivial, c17⟩, ⟨trivial, ⟨trivial, ⟨trivial, ⟨⟨trivial, c18⟩, ⟨trivial, ⟨trivial, ⟨F82_ok n (1 : Int) a_Length y_6 hx20, ⟨trivial, ⟨trivial, ⟨trivial, trivial⟩⟩⟩⟩⟩⟩⟩⟩⟩⟩⟩⟩⟩⟩⟩⟩
        refine TS.reg [.none, .none, .none, .none, .none, .dec false, .none, .none, .none, .dec true, .none, .none, (.call (.bool y_6) [])] ?_ ?_
        · apply prop_of ?_ hq
          kernel_rfl
        refine XS.reAny [0, 1] (mkMask 81 [1, 4, 5, 6]) y_6 h ?_
        kernel_rfl
      · have hq : (True) ∧ ((True) ∧ ((True) ∧ ((True) ∧ ((True) ∧ (((True) ∧ (a_Length == y_3.2.2.2.2.1) = false) ∧ ((True) ∧ ((True) ∧ ((True) ∧ (((True) ∧ (decide (y_3.2.2.2.2.1 < (0 : Int))) = false) ∧ ((True) ∧ ((True) ∧ ((True) ∧ (True))))))))))))) := ⟨trivial, ⟨trivial, ⟨trivial, ⟨trivial, ⟨trivial, ⟨⟨trivial, c17⟩, ⟨trivial, ⟨trivial, ⟨trivial, ⟨⟨trivial, c19⟩, ⟨trivial, ⟨trivial, ⟨trivial, trivial⟩⟩⟩⟩⟩⟩⟩⟩⟩⟩⟩⟩⟩
        refine TS.reg [.none, .none, .none, .none, .none, .dec false, .none, .none, .none, .dec false] ?_ ?_
        · apply prop_of ?_ hq
          kernel_rfl
        refine XS.reAny [0, 1] (mkMask 81 [1, 4, 5, 6]) false h ?_
        kernel_rfl

/-! plugtree/plugref.Between -/
def F16 (n : Nat) (vn : Int) (low : Int) (high : Int) : Option Bool := (bif (decide (low ≤ vn)) then (some (decide (vn ≤ high))) else (some false))
theorem F16_ok (n : Nat) (vn : Int) (low : Int) (high : Int) (r : Bool) (h : F16 n vn low high = some r) : PureC Try.prog 16 [(.int .i64 vn), (.int .i64 low), (.int .i64 high)] (.bool r) [] := by
  refine PureC.mkS Try.func16 rfl rfl ?_
  intro w0 fz0 hfz
  replace h : (bif (decide (low ≤ vn)) then (some (decide (vn ≤ high))) else (some false)) = some r := h
  refine TS.seq ?_
  have hq : (True) ∧ (True) := ⟨trivial, trivial⟩
  refine TS.reg [] ?_ ?_
  · apply prop_of ?_ hq
    kernel_rfl
  refine XS.then ?_
  refine TS.seq ?_
  rcases bif_some h with ⟨c1, h⟩ | ⟨c2, h⟩
  · have hq : (True) ∧ ((True) ∧ ((True) ∧ (((True) ∧ (decide (low ≤ vn)) = true) ∧ ((True) ∧ ((True) ∧ ((True) ∧ ((True) ∧ ((True) ∧ (True))))))))) := ⟨trivial, ⟨trivial, ⟨trivial, ⟨⟨trivial, c1⟩, ⟨trivial, ⟨trivial, ⟨trivial, ⟨trivial, ⟨trivial, trivial⟩⟩⟩⟩⟩⟩⟩⟩⟩
    refine TS.reg [.none, .none, .none, .dec true] ?_ ?_
    · apply prop_of ?_ hq
      kernel_rfl
    refine XS.then ?_
    refine TS.ret ?_
    obtain rfl : (decide (vn ≤ high)) = r := Option.some.inj h
    exact XS.fin [] ((True) ∧ (True)) (by kernel_rfl) ⟨trivial, trivial⟩
  · have hq : (True) ∧ ((True) ∧ ((True) ∧ (((True) ∧ (decide (low ≤ vn)) = false) ∧ ((True) ∧ ((True) ∧ (True)))))) := ⟨trivial, ⟨trivial, ⟨trivial, ⟨⟨trivial, c2⟩, ⟨trivial, ⟨trivial, trivial⟩⟩⟩⟩⟩⟩
    refine TS.reg [.none, .none, .none, .dec false] ?_ ?_
    · apply prop_of ?_ hq
      kernel_rfl
    refine XS.then ?_
    refine TS.ret ?_
    obtain rfl : false = r := Option.some.inj h
    exact XS.fin [] ((True) ∧ (True)) (by kernel_rfl) ⟨trivial, trivial⟩

/-! plugtree/plugref.askValue -/
def F83_j4 (n : Nat) (kind : Int) (vn : Int) : Bool → Option Bool
  | x_2 => (bif x_2 then ((F16 n vn (0 : Int) (31 : Int)).bind fun y_5 => (some y_5)) else (bif (kind == (14 : Int)) then (some (vn == (512 : Int))) else (some (vn == (0 : Int)))))
def F83_j3 (n : Nat) (kind : Int) (vn : Int) : Bool → Option Bool
  | x => (bif x then ((F16 n vn (0 : Int) (65535 : Int)).bind fun y_3 => (some y_3)) else (bif (kind == (6 : Int)) then ((F16 n vn (0 : Int) (255 : Int)).bind fun y_4 => (some y_4)) else (bif (kind == (9 : Int)) then (F83_j4 n kind vn (kind == (9 : Int))) else (F83_j4 n kind vn (kind == (10 : Int))))))
def F83 (n : Nat) (kind : Int) (vn : Int) : Option Bool := (bif (kind == (4 : Int)) then ((F16 n vn (0 : Int) (127 : Int)).bind fun y_2 => (some y_2)) else (bif (kind == (5 : Int)) then (F83_j3 n kind vn (kind == (5 : Int))) else (F83_j3 n kind vn (kind == (13 : Int)))))
theorem F83_ok (n : Nat) (kind : Int) (vn : Int) (r : Bool) (h : F83 n kind vn = some r) : PureC Try.prog 83 [(.int .i64 kind), (.int .i64 vn)] (.bool r) [] := by
  refine PureC.mkS Try.func83 rfl rfl ?_
  intro w0 fz0 hfz
  replace h : (bif (kind == (4 : Int)) then ((F16 n vn (0 : Int) (127 : Int)).bind fun y_2 => (some y_2)) else (bif (kind == (5 : Int)) then (F83_j3 n kind vn (kind == (5 : Int))) else (F83_j3 n kind vn (kind == (13 : Int))))) = some r := h
  refine TS.seq ?_
  have hq : (True) ∧ (True) := ⟨trivial, trivial⟩
  refine TS.reg [] ?_ ?_
  · apply prop_of ?_ hq
    kernel_rfl
  refine XS.then ?_
  refine TS.seq ?_
  refine TS.seq ?_
  have hq : (True) ∧ (True) := ⟨trivial, trivial⟩
  refine TS.reg [] ?_ ?_
  · apply prop_of ?_ hq
    kernel_rfl
  refine XS.then ?_
  refine TS.block ?_
  refine TS.seq ?_
  have hq : (True) ∧ ((True) ∧ (True)) := ⟨trivial, ⟨trivial, trivial⟩⟩
  refine TS.reg [] ?_ ?_
  · apply prop_of ?_ hq
    kernel_rfl
  refine XS.then ?_
  rcases bif_some h with ⟨c1, h⟩ | ⟨c2, h⟩
  · refine TS.cond (kind == (4 : Int)) ?_ (fun e => ?_) (fun e => by rw [c1] at e; cases e)
    · kernel_rfl
    refine TS.seq ?_
    obtain ⟨y_2, hx3, h⟩ := bind_some' h
    have hq : (True) ∧ ((PureC Try.prog 16 [(.int .i64 vn), (.int .i64 (0 : Int)), (.int .i64 (127 : Int))] (.bool y_2) []) ∧ ((True) ∧ (True))) := ⟨trivial, ⟨F16_ok n vn (0 : Int) (127 : Int) y_2 hx3, ⟨trivial, trivial⟩⟩⟩
    refine TS.reg [.none, (.call (.bool y_2) [])] ?_ ?_
    · apply prop_of ?_ hq
      kernel_rfl
    refine XS.then ?_
    refine TS.ret ?_
    refine XS.blockRet ?_
    refine XS.passR ?_
    obtain rfl : y_2 = r := Option.some.inj h
    exact XS.fin [] ((True) ∧ (True)) (by kernel_rfl) ⟨trivial, trivial⟩
  · refine TS.cond (kind == (4 : Int)) ?_ (fun e => by rw [c2] at e; cases e) (fun e => ?_)
    · kernel_rfl
    refine TS.seq ?_
    refine TS.seq ?_
    have hq : (True) ∧ ((True) ∧ (True)) := ⟨trivial, ⟨trivial, trivial⟩⟩
    refine TS.reg [] ?_ ?_
    · apply prop_of ?_ hq
      kernel_rfl
    refine XS.then ?_
    refine TS.cut (D := Bool) (fun d => match d with | x => (mkTs 30 [(1, (.int .i64 vn)), (5, (.int .i64 kind)), (10, (.bool x))], [])) (fun d => F83_j3 n kind vn d = some r) ?_ ?_
    · rintro x h
      replace h : (bif x then ((F16 n vn (0 : Int) (65535 : Int)).bind fun y_3 => (some y_3)) else (bif (kind == (6 : Int)) then ((F16 n vn (0 : Int) (255 : Int)).bind fun y_4 => (some y_4)) else (bif (kind == (9 : Int)) then (F83_j4 n kind vn (kind == (9 : Int))) else (F83_j4 n kind vn (kind == (10 : Int)))))) = some r := h
      refine XS.then ?_
      rcases bif_some h with ⟨c4, h⟩ | ⟨c5, h⟩
      · refine TS.cond x ?_ (fun e => ?_) (fun e => by rw [c4] at e; cases e)
        · kernel_rfl
        refine TS.seq ?_
        obtain ⟨y_3, hx6, h⟩ := bind_some' h
        have hq : (True) ∧ ((PureC Try.prog 16 [(.int .i64 vn), (.int .i64 (0 : Int)), (.int .i64 (65535 : Int))] (.bool y_3) []) ∧ ((True) ∧ (True))) := ⟨trivial, ⟨F16_ok n vn (0 : Int) (65535 : Int) y_3 hx6, ⟨trivial, trivial⟩⟩⟩
        refine TS.reg [.none, (.call (.bool y_3) [])] ?_ ?_
        · apply prop_of ?_ hq
          kernel_rfl
        refine XS.then ?_
        refine TS.ret ?_
        refine XS.blockRet ?_
        refine XS.passR ?_
        obtain rfl : y_3 = r := Option.some.inj h
        exact XS.fin [] ((True) ∧ (True)) (by kernel_rfl) ⟨trivial, trivial⟩
      · refine TS.cond x ?_ (fun e => by rw [c5] at e; cases e) (fun e => ?_)
        · kernel_rfl
        refine TS.seq ?_
        have hq : (True) ∧ ((True) ∧ (True)) := ⟨trivial, ⟨trivial, trivial⟩⟩
        refine TS.reg [] ?_ ?_
        · apply prop_of ?_ hq
          kernel_rfl
        refine XS.then ?_
        rcases bif_some h with ⟨c7, h⟩ | ⟨c8, h⟩
        · refine TS.cond (kind == (6 : Int)) ?_ (fun e => ?_) (fun e => by rw [c7] at e; cases e)
          · kernel_rfl
          refine TS.seq ?_
          obtain ⟨y_4, hx9, h⟩ := bind_some' h
          have hq : (True) ∧ ((PureC Try.prog 16 [(.int .i64 vn), (.int .i64 (0 : Int)), (.int .i64 (255 : Int))] (.bool y_4) []) ∧ ((True) ∧ (True))) := ⟨trivial, ⟨F16_ok n vn (0 : Int) (255 : Int) y_4 hx9, ⟨trivial, trivial⟩⟩⟩
          refine TS.reg [.none, (.call (.bool y_4) [])] ?_ ?_
          · apply prop_of ?_ hq
            kernel_rfl
          refine XS.then ?_
          refine TS.ret ?_
          refine XS.blockRet ?_
          refine XS.passR ?_
          obtain rfl : y_4 = r := Option.some.inj h
          exact XS.fin [] ((True) ∧ (True)) (by kernel_rfl) ⟨trivial, trivial⟩
        · refine TS.cond (kind == (6 : Int)) ?_ (fun e => by rw [c8] at e; cases e) (fun e => ?_)
          · kernel_rfl
          refine TS.seq ?_
          refine TS.seq ?_
          have hq : (True) ∧ ((True) ∧ (True)) := ⟨trivial, ⟨trivial, trivial⟩⟩
          refine TS.reg [] ?_ ?_
          · apply prop_of ?_ hq
            kernel_rfl
          refine XS.then ?_
          refine TS.cut (D := Bool) (fun d => match d with | x_2 => (mkTs 30 [(1, (.int .i64 vn)), (5, (.int .i64 kind)), (19, (.bool x_2))], [])) (fun d => F83_j4 n kind vn d = some r) ?_ ?_
          · rintro x_2 h
            replace h : (bif x_2 then ((F16 n vn (0 : Int) (31 : Int)).bind fun y_5 => (some y_5)) else (bif (kind == (14 : Int)) then (some (vn == (512 : Int))) else (some (vn == (0 : Int))))) = some r := h
            refine XS.then ?_
            rcases bif_some h with ⟨c10, h⟩ | ⟨c11, h⟩
            · refine TS.cond x_2 ?_ (fun e => ?_) (fun e => by rw [c10] at e; cases e)
              · kernel_rfl
              refine TS.seq ?_
              obtain ⟨y_5, hx12, h⟩ := bind_some' h
              have hq : (True) ∧ ((PureC Try.prog 16 [(.int .i64 vn), (.int .i64 (0 : Int)), (.int .i64 (31 : Int))] (.bool y_5) []) ∧ ((True) ∧ (True))) := ⟨trivial, ⟨F16_ok n vn (0 : Int) (31 : Int) y_5 hx12, ⟨trivial, trivial⟩⟩⟩
              refine TS.reg [.none, (.call (.bool y_5) [])] ?_ ?_
              · apply prop_of ?_ hq
                kernel_rfl
              refine XS.then ?_
              refine TS.ret ?_
              refine XS.blockRet ?_
              refine XS.passR ?_
              obtain rfl : y_5 = r := Option.some.inj h
              exact XS.fin [] ((True) ∧ (True)) (by kernel_rfl) ⟨trivial, trivial⟩
            · refine TS.cond x_2 ?_ (fun e => by rw [c11] at e; cases e) (fun e => ?_)
              · kernel_rfl
              refine TS.seq ?_
              have hq : (True) ∧ ((True) ∧ (True)) := ⟨trivial, ⟨trivial, trivial⟩⟩
              refine TS.reg [] ?_ ?_
              · apply prop_of ?_ hq
                kernel_rfl
              refine XS.then ?_
              rcases bif_some h with ⟨c13, h⟩ | ⟨c14, h⟩
              · refine TS.cond (kind == (14 : Int)) ?_ (fun e => ?_) (fun e => by rw [c13] at e; cases e)
                · kernel_rfl
                refine TS.seq ?_
                have hq : (True) ∧ ((True) ∧ ((True) ∧ (True))) := ⟨trivial, ⟨trivial, ⟨trivial, trivial⟩⟩⟩
                refine TS.reg [] ?_ ?_
                · apply prop_of ?_ hq
                  kernel_rfl
                refine XS.then ?_
                refine TS.ret ?_
                refine XS.blockRet ?_
                refine XS.passR ?_
                obtain rfl : (vn == (512 : Int)) = r := Option.some.inj h
                exact XS.fin [] ((True) ∧ (True)) (by kernel_rfl) ⟨trivial, trivial⟩
              · refine TS.cond (kind == (14 : Int)) ?_ (fun e => by rw [c14] at e; cases e) (fun e => ?_)
                · kernel_rfl
                refine TS.skip ?_
                refine XS.blockEnd ?_
                refine XS.then ?_
                refine TS.seq ?_
                have hq : (True) ∧ ((True) ∧ ((True) ∧ (True))) := ⟨trivial, ⟨trivial, ⟨trivial, trivial⟩⟩⟩
                refine TS.reg [] ?_ ?_
                · apply prop_of ?_ hq
                  kernel_rfl
                refine XS.then ?_
                refine TS.ret ?_
                obtain rfl : (vn == (0 : Int)) = r := Option.some.inj h
                exact XS.fin [] ((True) ∧ (True)) (by kernel_rfl) ⟨trivial, trivial⟩
          · rcases bif_some h with ⟨c15, h⟩ | ⟨c16, h⟩
            · refine TS.cond (kind == (9 : Int)) ?_ (fun e => ?_) (fun e => by rw [c15] at e; cases e)
              · kernel_rfl
              refine TS.skip ?_
              refine XS.reAny [] (mkMask 30 [1, 5, 19]) (kind == (9 : Int)) h ?_
              kernel_rfl
            · refine TS.cond (kind == (9 : Int)) ?_ (fun e => by rw [c16] at e; cases e) (fun e => ?_)
              · kernel_rfl
              have hq : (True) ∧ ((True) ∧ (True)) := ⟨trivial, ⟨trivial, trivial⟩⟩
              refine TS.reg [] ?_ ?_
              · apply prop_of ?_ hq
                kernel_rfl
              refine XS.reAny [] (mkMask 30 [1, 5, 19]) (kind == (10 : Int)) h ?_
              kernel_rfl
    · rcases bif_some h with ⟨c17, h⟩ | ⟨c18, h⟩
      · refine TS.cond (kind == (5 : Int)) ?_ (fun e => ?_) (fun e => by rw [c17] at e; cases e)
        · kernel_rfl
        refine TS.skip ?_
        refine XS.reAny [] (mkMask 30 [1, 5, 10]) (kind == (5 : Int)) h ?_
        kernel_rfl
      · refine TS.cond (kind == (5 : Int)) ?_ (fun e => by rw [c18] at e; cases e) (fun e => ?_)
        · kernel_rfl
        have hq : (True) ∧ ((True) ∧ (True)) := ⟨trivial, ⟨trivial, trivial⟩⟩
        refine TS.reg [] ?_ ?_
        · apply prop_of ?_ hq
          kernel_rfl
        refine XS.reAny [] (mkMask 30 [1, 5, 10]) (kind == (13 : Int)) h ?_
        kernel_rfl

/-! plugtree/plugref.askIndex -/
def F84 (n : Nat) (kind : Int) (vn : Int) : Option Bool := (bif (kind == (2 : Int)) then ((F16 n vn (0 : Int) (15 : Int)).bind fun y_2 => (bif y_2 then (some true) else ((F16 n vn (128 : Int) (143 : Int)).bind fun y_3 => (some y_3)))) else (bif (kind == (3 : Int)) then ((F16 n vn (0 : Int) (15 : Int)).bind fun y_4 => (bif y_4 then (some true) else ((F16 n vn (128 : Int) (143 : Int)).bind fun y_5 => (some y_5)))) else (bif (kind == (5 : Int)) then ((F16 n vn (0 : Int) (65535 : Int)).bind fun y_6 => (some y_6)) else ((F16 n kind (8 : Int) (10 : Int)).bind fun y_7 => (bif y_7 then ((F16 n vn (1 : Int) (15 : Int)).bind fun y_8 => (some y_8)) else ((F16 n kind (11 : Int) (14 : Int)).bind fun y_9 => (bif y_9 then ((F16 n vn (0 : Int) (255 : Int)).bind fun y_10 => (some y_10)) else (some (vn == (0 : Int))))))))))
theorem F84_ok (n : Nat) (kind : Int) (vn : Int) (r : Bool) (h : F84 n kind vn = some r) : PureC Try.prog 84 [(.int .i64 kind), (.int .i64 vn)] (.bool r) [] := by
  refine PureC.mkS Try.func84 rfl rfl ?_
  intro w0 fz0 hfz
  replace h : (bif (kind == (2 : Int)) then ((F16 n vn (0 : Int) (15 : Int)).bind fun y_2 => (bif y_2 then (some true) else ((F16 n vn (128 : Int) (143 : Int)).bind fun y_3 => (some y_3)))) else (bif (kind == (3 : Int)) then ((F16 n vn (0 : Int) (15 : Int)).bind fun y_4 => (bif y_4 then (some true) else ((F16 n vn (128 : Int) (143 : Int)).bind fun y_5 => (some y_5)))) else (bif (kind == (5 : Int)) then ((F16 n vn (0 : Int) (65535 : Int)).bind fun y_6 => (some y_6)) else ((F16 n kind (8 : Int) (10 : Int)).bind fun y_7 => (bif y_7 then ((F16 n vn (1 : Int) (15 : Int)).bind fun y_8 => (some y_8)) else ((F16 n kind (11 : Int) (14 : Int)).bind fun y_9 => (bif y_9 then ((F16 n vn (0 : Int) (255 : Int)).bind fun y_10 => (some y_10)) else (some (vn == (0 : Int)))))))))) = some r := h
  refine TS.seq ?_
  have hq : (True) ∧ (True) := ⟨trivial, trivial⟩
  refine TS.reg [] ?_ ?_
  · apply prop_of ?_ hq
    kernel_rfl
  refine XS.then ?_
  refine TS.seq ?_
  refine TS.block ?_
  refine TS.seq ?_
  rcases bif_some h with ⟨c1, h⟩ | ⟨c2, h⟩
  · have hq : (True) ∧ ((True) ∧ (((True) ∧ (kind == (2 : Int)) = true) ∧ ((True) ∧ ((True) ∧ (True))))) := ⟨trivial, ⟨trivial, ⟨⟨trivial, c1⟩, ⟨trivial, ⟨trivial, trivial⟩⟩⟩⟩⟩
    refine TS.reg [.none, .none, .dec true] ?_ ?_
    · apply prop_of ?_ hq
      kernel_rfl
    refine XS.then ?_
    refine TS.yes ?_ ?_
    · kernel_rfl
    refine TS.seq ?_
    obtain ⟨y_2, hx3, h⟩ := bind_some' h
    rcases bif_some h with ⟨c4, h⟩ | ⟨c5, h⟩
    · have hq : (True) ∧ ((PureC Try.prog 16 [(.int .i64 vn), (.int .i64 (0 : Int)), (.int .i64 (15 : Int))] (.bool y_2) []) ∧ (((True) ∧ y_2 = true) ∧ ((True) ∧ ((True) ∧ (True))))) := ⟨trivial, ⟨F16_ok n vn (0 : Int) (15 : Int) y_2 hx3, ⟨⟨trivial, c4⟩, ⟨trivial, ⟨trivial, trivial⟩⟩⟩⟩⟩
      refine TS.reg [.none, (.call (.bool y_2) []), .dec true] ?_ ?_
      · apply prop_of ?_ hq
        kernel_rfl
      refine XS.then ?_
      refine TS.ret ?_
      refine XS.blockRet ?_
      refine XS.passR ?_
      obtain rfl : true = r := Option.some.inj h
      exact XS.fin [] ((True) ∧ (True)) (by kernel_rfl) ⟨trivial, trivial⟩
    · obtain ⟨y_3, hx6, h⟩ := bind_some' h
      have hq : (True) ∧ ((PureC Try.prog 16 [(.int .i64 vn), (.int .i64 (0 : Int)), (.int .i64 (15 : Int))] (.bool y_2) []) ∧ (((True) ∧ y_2 = false) ∧ ((True) ∧ ((PureC Try.prog 16 [(.int .i64 vn), (.int .i64 (128 : Int)), (.int .i64 (143 : Int))] (.bool y_3) []) ∧ ((True) ∧ ((True) ∧ (True))))))) := ⟨trivial, ⟨F16_ok n vn (0 : Int) (15 : Int) y_2 hx3, ⟨⟨trivial, c5⟩, ⟨trivial, ⟨F16_ok n vn (128 : Int) (143 : Int) y_3 hx6, ⟨trivial, ⟨trivial, trivial⟩⟩⟩⟩⟩⟩⟩
      refine TS.reg [.none, (.call (.bool y_2) []), .dec false, .none, (.call (.bool y_3) [])] ?_ ?_
      · apply prop_of ?_ hq
        kernel_rfl
      refine XS.then ?_
      refine TS.ret ?_
      refine XS.blockRet ?_
      refine XS.passR ?_
      obtain rfl : y_3 = r := Option.some.inj h
      exact XS.fin [] ((True) ∧ (True)) (by kernel_rfl) ⟨trivial, trivial⟩
  · have hq : (True) ∧ ((True) ∧ (((True) ∧ (kind == (2 : Int)) = false) ∧ ((True) ∧ ((True) ∧ ((True) ∧ ((True) ∧ (True))))))) := ⟨trivial, ⟨trivial, ⟨⟨trivial, c2⟩, ⟨trivial, ⟨trivial, ⟨trivial, ⟨trivial, trivial⟩⟩⟩⟩⟩⟩⟩
    refine TS.reg [.none, .none, .dec false] ?_ ?_
    · apply prop_of ?_ hq
      kernel_rfl
    refine XS.then ?_
    rcases bif_some h with ⟨c7, h⟩ | ⟨c8, h⟩
    · refine TS.cond (kind == (3 : Int)) ?_ (fun e => ?_) (fun e => by rw [c7] at e; cases e)
      · kernel_rfl
      refine TS.seq ?_
      obtain ⟨y_4, hx9, h⟩ := bind_some' h
      rcases bif_some h with ⟨c10, h⟩ | ⟨c11, h⟩
      · have hq : (True) ∧ ((PureC Try.prog 16 [(.int .i64 vn), (.int .i64 (0 : Int)), (.int .i64 (15 : Int))] (.bool y_4) []) ∧ (((True) ∧ y_4 = true) ∧ ((True) ∧ ((True) ∧ (True))))) := ⟨trivial, ⟨F16_ok n vn (0 : Int) (15 : Int) y_4 hx9, ⟨⟨trivial, c10⟩, ⟨trivial, ⟨trivial, trivial⟩⟩⟩⟩⟩
        refine TS.reg [.none, (.call (.bool y_4) []), .dec true] ?_ ?_
        · apply prop_of ?_ hq
          kernel_rfl
        refine XS.then ?_
        refine TS.ret ?_
        refine XS.blockRet ?_
        refine XS.passR ?_
        obtain rfl : true = r := Option.some.inj h
        exact XS.fin [] ((True) ∧ (True)) (by kernel_rfl) ⟨trivial, trivial⟩
      · obtain ⟨y_5, hx12, h⟩ := bind_some' h
        have hq : (True) ∧ ((PureC Try.prog 16 [(.int .i64 vn), (.int .i64 (0 : Int)), (.int .i64 (15 : Int))] (.bool y_4) []) ∧ (((True) ∧ y_4 = false) ∧ ((True) ∧ ((PureC Try.prog 16 [(.int .i64 vn), (.int .i64 (128 : Int)), (.int .i64 (143 : Int))] (.bool y_5) []) ∧ ((True) ∧ ((True) ∧ (True))))))) := ⟨trivial, ⟨F16_ok n vn (0 : Int) (15 : Int) y_4 hx9, ⟨⟨trivial, c11⟩, ⟨trivial, ⟨F16_ok n vn (128 : Int) (143 : Int) y_5 hx12, ⟨trivial, ⟨trivial, trivial⟩⟩⟩⟩⟩⟩⟩
        refine TS.reg [.none, (.call (.bool y_4) []), .dec false, .none, (.call (.bool y_5) [])] ?_ ?_
        · apply prop_of ?_ hq
          kernel_rfl
        refine XS.then ?_
        refine TS.ret ?_
        refine XS.blockRet ?_
        refine XS.passR ?_
        obtain rfl : y_5 = r := Option.some.inj h
        exact XS.fin [] ((True) ∧ (True)) (by kernel_rfl) ⟨trivial, trivial⟩
    · refine TS.cond (kind == (3 : Int)) ?_ (fun e => by rw [c8] at e; cases e) (fun e => ?_)
      · kernel_rfl
      refine TS.seq ?_
      have hq : (True) ∧ ((True) ∧ ((True) ∧ (True))) := ⟨trivial, ⟨trivial, ⟨trivial, trivial⟩⟩⟩
      refine TS.reg [] ?_ ?_
      · apply prop_of ?_ hq
        kernel_rfl
      refine XS.then ?_
      rcases bif_some h with ⟨c13, h⟩ | ⟨c14, h⟩
      · refine TS.cond (kind == (5 : Int)) ?_ (fun e => ?_) (fun e => by rw [c13] at e; cases e)
        · kernel_rfl
        refine TS.seq ?_
        obtain ⟨y_6, hx15, h⟩ := bind_some' h
        have hq : (True) ∧ ((PureC Try.prog 16 [(.int .i64 vn), (.int .i64 (0 : Int)), (.int .i64 (65535 : Int))] (.bool y_6) []) ∧ ((True) ∧ (True))) := ⟨trivial, ⟨F16_ok n vn (0 : Int) (65535 : Int) y_6 hx15, ⟨trivial, trivial⟩⟩⟩
        refine TS.reg [.none, (.call (.bool y_6) [])] ?_ ?_
        · apply prop_of ?_ hq
          kernel_rfl
        refine XS.then ?_
        refine TS.ret ?_
        refine XS.blockRet ?_
        refine XS.passR ?_
        obtain rfl : y_6 = r := Option.some.inj h
        exact XS.fin [] ((True) ∧ (True)) (by kernel_rfl) ⟨trivial, trivial⟩
      · refine TS.cond (kind == (5 : Int)) ?_ (fun e => by rw [c14] at e; cases e) (fun e => ?_)
        · kernel_rfl
        refine TS.seq ?_
        obtain ⟨y_7, hx16, h⟩ := bind_some' h
        have hq : (True) ∧ ((PureC Try.prog 16 [(.int .i64 kind), (.int .i64 (8 : Int)), (.int .i64 (10 : Int))] (.bool y_7) []) ∧ ((True) ∧ (True))) := ⟨trivial, ⟨F16_ok n kind (8 : Int) (10 : Int) y_7 hx16, ⟨trivial, trivial⟩⟩⟩
        refine TS.reg [.none, (.call (.bool y_7) [])] ?_ ?_
        · apply prop_of ?_ hq
          kernel_rfl
        refine XS.then ?_
        rcases bif_some h with ⟨c17, h⟩ | ⟨c18, h⟩
        · refine TS.cond y_7 ?_ (fun e => ?_) (fun e => by rw [c17] at e; cases e)
          · kernel_rfl
          refine TS.seq ?_
          obtain ⟨y_8, hx19, h⟩ := bind_some' h
          have hq : (True) ∧ ((PureC Try.prog 16 [(.int .i64 vn), (.int .i64 (1 : Int)), (.int .i64 (15 : Int))] (.bool y_8) []) ∧ ((True) ∧ (True))) := ⟨trivial, ⟨F16_ok n vn (1 : Int) (15 : Int) y_8 hx19, ⟨trivial, trivial⟩⟩⟩
          refine TS.reg [.none, (.call (.bool y_8) [])] ?_ ?_
          · apply prop_of ?_ hq
            kernel_rfl
          refine XS.then ?_
          refine TS.ret ?_
          refine XS.blockRet ?_
          refine XS.passR ?_
          obtain rfl : y_8 = r := Option.some.inj h
          exact XS.fin [] ((True) ∧ (True)) (by kernel_rfl) ⟨trivial, trivial⟩
        · refine TS.cond y_7 ?_ (fun e => by rw [c18] at e; cases e) (fun e => ?_)
          · kernel_rfl
          refine TS.seq ?_
          obtain ⟨y_9, hx20, h⟩ := bind_some' h
          have hq : (True) ∧ ((PureC Try.prog 16 [(.int .i64 kind), (.int .i64 (11 : Int)), (.int .i64 (14 : Int))] (.bool y_9) []) ∧ ((True) ∧ (True))) := ⟨trivial, ⟨F16_ok n kind (11 : Int) (14 : Int) y_9 hx20, ⟨trivial, trivial⟩⟩⟩
          refine TS.reg [.none, (.call (.bool y_9) [])] ?_ ?_
          · apply prop_of ?_ hq
            kernel_rfl
          refine XS.then ?_
          rcases bif_some h with ⟨c21, h⟩ | ⟨c22, h⟩
          · refine TS.cond y_9 ?_ (fun e => ?_) (fun e => by rw [c21] at e; cases e)
            · kernel_rfl
            refine TS.seq ?_
            obtain ⟨y_10, hx23, h⟩ := bind_some' h
            have hq : (True) ∧ ((PureC Try.prog 16 [(.int .i64 vn), (.int .i64 (0 : Int)), (.int .i64 (255 : Int))] (.bool y_10) []) ∧ ((True) ∧ (True))) := ⟨trivial, ⟨F16_ok n vn (0 : Int) (255 : Int) y_10 hx23, ⟨trivial, trivial⟩⟩⟩
            refine TS.reg [.none, (.call (.bool y_10) [])] ?_ ?_
            · apply prop_of ?_ hq
              kernel_rfl
            refine XS.then ?_
            refine TS.ret ?_
            refine XS.blockRet ?_
            refine XS.passR ?_
            obtain rfl : y_10 = r := Option.some.inj h
            exact XS.fin [] ((True) ∧ (True)) (by kernel_rfl) ⟨trivial, trivial⟩
          · refine TS.cond y_9 ?_ (fun e => by rw [c22] at e; cases e) (fun e => ?_)
            · kernel_rfl
            refine TS.skip ?_
            refine XS.blockEnd ?_
            refine XS.then ?_
            refine TS.seq ?_
            have hq : (True) ∧ ((True) ∧ ((True) ∧ (True))) := ⟨trivial, ⟨trivial, ⟨trivial, trivial⟩⟩⟩
            refine TS.reg [] ?_ ?_
            · apply prop_of ?_ hq
              kernel_rfl
            refine XS.then ?_
            refine TS.ret ?_
            obtain rfl : (vn == (0 : Int)) = r := Option.some.inj h
            exact XS.fin [] ((True) ∧ (True)) (by kernel_rfl) ⟨trivial, trivial⟩

/-! plugtree/plugref.askLength -/
def F85 (n : Nat) (kind : Int) (vn : Int) : Option Bool := (bif (kind == (5 : Int)) then ((F16 n vn (0 : Int) (65535 : Int)).bind fun y_2 => (some y_2)) else ((F16 n kind (1 : Int) (14 : Int)).bind fun y_3 => (bif y_3 then (bif inb (IntKind.wrap .i64 (kind - (1 : Int))) (([2, 0, 0, 0, 0, 0, 1, 4, 0, 0, 0, 1, 0, 1] : List UInt8).length) then (some (vn == (IntKind.wrap .i64 ((((([2, 0, 0, 0, 0, 0, 1, 4, 0, 0, 0, 1, 0, 1] : List UInt8).getD ((IntKind.wrap .i64 (kind - (1 : Int))).toNat) 0).toNat : Nat) : Int))))) else none) else (some false))))
theorem F85_ok (n : Nat) (kind : Int) (vn : Int) (r : Bool) (h : F85 n kind vn = some r) : PureC Try.prog 85 [(.int .i64 kind), (.int .i64 vn)] (.bool r) [] := by
  refine PureC.mkS Try.func85 rfl rfl ?_
  intro w0 fz0 hfz
  replace h : (bif (kind == (5 : Int)) then ((F16 n vn (0 : Int) (65535 : Int)).bind fun y_2 => (some y_2)) else ((F16 n kind (1 : Int) (14 : Int)).bind fun y_3 => (bif y_3 then (bif inb (IntKind.wrap .i64 (kind - (1 : Int))) (([2, 0, 0, 0, 0, 0, 1, 4, 0, 0, 0, 1, 0, 1] : List UInt8).length) then (some (vn == (IntKind.wrap .i64 ((((([2, 0, 0, 0, 0, 0, 1, 4, 0, 0, 0, 1, 0, 1] : List UInt8).getD ((IntKind.wrap .i64 (kind - (1 : Int))).toNat) 0).toNat : Nat) : Int))))) else none) else (some false)))) = some r := h
  refine TS.seq ?_
  have hq : (True) ∧ (True) := ⟨trivial, trivial⟩
  refine TS.reg [] ?_ ?_
  · apply prop_of ?_ hq
    kernel_rfl
  refine XS.then ?_
  refine TS.seq ?_
  refine TS.seq ?_
  have hq : (True) ∧ ((True) ∧ (True)) := ⟨trivial, ⟨trivial, trivial⟩⟩
  refine TS.reg [] ?_ ?_
  · apply prop_of ?_ hq
    kernel_rfl
  refine XS.then ?_
  rcases bif_some h with ⟨c1, h⟩ | ⟨c2, h⟩
  · refine TS.cond (kind == (5 : Int)) ?_ (fun e => ?_) (fun e => by rw [c1] at e; cases e)
    · kernel_rfl
    refine TS.seq ?_
    obtain ⟨y_2, hx3, h⟩ := bind_some' h
    have hq : (True) ∧ ((PureC Try.prog 16 [(.int .i64 vn), (.int .i64 (0 : Int)), (.int .i64 (65535 : Int))] (.bool y_2) []) ∧ ((True) ∧ (True))) := ⟨trivial, ⟨F16_ok n vn (0 : Int) (65535 : Int) y_2 hx3, ⟨trivial, trivial⟩⟩⟩
    refine TS.reg [.none, (.call (.bool y_2) [])] ?_ ?_
    · apply prop_of ?_ hq
      kernel_rfl
    refine XS.then ?_
    refine TS.ret ?_
    refine XS.passR ?_
    obtain rfl : y_2 = r := Option.some.inj h
    exact XS.fin [] ((True) ∧ (True)) (by kernel_rfl) ⟨trivial, trivial⟩
  · refine TS.cond (kind == (5 : Int)) ?_ (fun e => by rw [c2] at e; cases e) (fun e => ?_)
    · kernel_rfl
    refine TS.skip ?_
    refine XS.then ?_
    refine TS.seq ?_
    obtain ⟨y_3, hx4, h⟩ := bind_some' h
    rcases bif_some h with ⟨c5, h⟩ | ⟨c6, h⟩
    · obtain ⟨t7, h⟩ := test_some h
      have hq : (True) ∧ ((PureC Try.prog 16 [(.int .i64 kind), (.int .i64 (1 : Int)), (.int .i64 (14 : Int))] (.bool y_3) []) ∧ (((True) ∧ y_3 = true) ∧ ((True) ∧ ((True) ∧ ((True) ∧ ((inR (IntKind.wrap .i64 (kind - (1 : Int))) (([2, 0, 0, 0, 0, 0, 1, 4, 0, 0, 0, 1, 0, 1] : List UInt8).length)) ∧ ((True) ∧ ((True) ∧ ((True) ∧ ((True) ∧ (True))))))))))) := ⟨trivial, ⟨F16_ok n kind (1 : Int) (14 : Int) y_3 hx4, ⟨⟨trivial, c5⟩, ⟨trivial, ⟨trivial, ⟨trivial, ⟨inb_ok t7, ⟨trivial, ⟨trivial, ⟨trivial, ⟨trivial, trivial⟩⟩⟩⟩⟩⟩⟩⟩⟩⟩⟩
      refine TS.reg [.none, (.call (.bool y_3) []), .dec true] ?_ ?_
      · apply prop_of ?_ hq
        kernel_rfl
      refine XS.then ?_
      refine TS.ret ?_
      obtain rfl : (vn == (IntKind.wrap .i64 ((((([2, 0, 0, 0, 0, 0, 1, 4, 0, 0, 0, 1, 0, 1] : List UInt8).getD ((IntKind.wrap .i64 (kind - (1 : Int))).toNat) 0).toNat : Nat) : Int)))) = r := Option.some.inj h
      exact XS.fin [] ((True) ∧ (True)) (by kernel_rfl) ⟨trivial, trivial⟩
    · have hq : (True) ∧ ((PureC Try.prog 16 [(.int .i64 kind), (.int .i64 (1 : Int)), (.int .i64 (14 : Int))] (.bool y_3) []) ∧ (((True) ∧ y_3 = false) ∧ ((True) ∧ ((True) ∧ (True))))) := ⟨trivial, ⟨F16_ok n kind (1 : Int) (14 : Int) y_3 hx4, ⟨⟨trivial, c6⟩, ⟨trivial, ⟨trivial, trivial⟩⟩⟩⟩⟩
      refine TS.reg [.none, (.call (.bool y_3) []), .dec false] ?_ ?_
      · apply prop_of ?_ hq
        kernel_rfl
      refine XS.then ?_
      refine TS.ret ?_
      obtain rfl : false = r := Option.some.inj h
      exact XS.fin [] ((True) ∧ (True)) (by kernel_rfl) ⟨trivial, trivial⟩

/-! plugtree/plugref.TwoBytes -/
def F73 (n : Nat) (vn : Int) : Option (List UInt8) := (some (strOf [(IntKind.wrap .u8 ((vn.tmod (256 : Int)))), (IntKind.wrap .u8 (((IntKind.wrap .i64 (vn.tdiv (256 : Int))).tmod (256 : Int))))]))
theorem F73_ok (n : Nat) (vn : Int) (r : List UInt8) (h : F73 n vn = some r) : PureC Try.prog 73 [(.int .i64 vn)] (.str r) [] := by
  refine PureC.mkS Try.func73 rfl rfl ?_
  intro w0 fz0 hfz
  replace h : (some (strOf [(IntKind.wrap .u8 ((vn.tmod (256 : Int)))), (IntKind.wrap .u8 (((IntKind.wrap .i64 (vn.tdiv (256 : Int))).tmod (256 : Int))))])) = some r := h
  refine TS.seq ?_
  have hq : (True) ∧ (True) := ⟨trivial, trivial⟩
  refine TS.reg [] ?_ ?_
  · apply prop_of ?_ hq
    kernel_rfl
  refine XS.then ?_
  refine TS.seq ?_
  have hq : (True) ∧ (((256 : Int) ≠ 0) ∧ ((True) ∧ ((True) ∧ (((256 : Int) ≠ 0) ∧ (((256 : Int) ≠ 0) ∧ ((True) ∧ (((0 < 2 ∧ True) ∧ ((1 < 2 ∧ True) ∧ (True))) ∧ ((True) ∧ ((True) ∧ (True)))))))))) := ⟨trivial, ⟨by decide, ⟨trivial, ⟨trivial, ⟨by decide, ⟨by decide, ⟨trivial, ⟨⟨⟨by decide, trivial⟩, ⟨⟨by decide, trivial⟩, trivial⟩⟩, ⟨trivial, ⟨trivial, trivial⟩⟩⟩⟩⟩⟩⟩⟩⟩⟩
  refine TS.reg [] ?_ ?_
  · apply prop_of ?_ hq
    kernel_rfl
  refine XS.then ?_
  refine TS.ret ?_
  obtain rfl : (strOf [(IntKind.wrap .u8 ((vn.tmod (256 : Int)))), (IntKind.wrap .u8 (((IntKind.wrap .i64 (vn.tdiv (256 : Int))).tmod (256 : Int))))]) = r := Option.some.inj h
  exact XS.fin [] ((True) ∧ (True)) (by kernel_rfl) ⟨trivial, trivial⟩

/-! plugtree/plugref.AskText -/
def F30_j2 (n : Nat) (a_Kind : Int) (a_Value : Int) (a_Index : Int) (a_Length : Int) : Bool → Option ((List UInt8) × Int)
  | x => (bif x then (some (([] : List UInt8), (1 : Int))) else (bif subB (([128, 0, 2, 1, 2, 3, 0, 5, 128, 6, 0, 9, 128, 8, 163, 0, 35, 3, 35, 1, 33, 255, 161, 254, 33, 10, 33, 9] : List UInt8).length) (some (IntKind.wrap .i64 ((IntKind.wrap .i64 ((2 : Int) * a_Kind)) - (2 : Int)))) (some (IntKind.wrap .i64 ((2 : Int) * a_Kind))) then ((F73 n a_Value).bind fun y_3 => (bif (decide (((([128, 0, 2, 1, 2, 3, 0, 5, 128, 6, 0, 9, 128, 8, 163, 0, 35, 3, 35, 1, 33, 255, 161, 254, 33, 10, 33, 9] : List UInt8).take (IntKind.wrap .i64 ((2 : Int) * a_Kind)).toNat).drop (IntKind.wrap .i64 ((IntKind.wrap .i64 ((2 : Int) * a_Kind)) - (2 : Int))).toNat).length + y_3.length ≤ 9223372036854775807)) then ((F73 n a_Index).bind fun y_4 => (bif (decide ((((([128, 0, 2, 1, 2, 3, 0, 5, 128, 6, 0, 9, 128, 8, 163, 0, 35, 3, 35, 1, 33, 255, 161, 254, 33, 10, 33, 9] : List UInt8).take (IntKind.wrap .i64 ((2 : Int) * a_Kind)).toNat).drop (IntKind.wrap .i64 ((IntKind.wrap .i64 ((2 : Int) * a_Kind)) - (2 : Int))).toNat) ++ y_3).length + y_4.length ≤ 9223372036854775807)) then ((F73 n a_Length).bind fun y_5 => (bif (decide (((((([128, 0, 2, 1, 2, 3, 0, 5, 128, 6, 0, 9, 128, 8, 163, 0, 35, 3, 35, 1, 33, 255, 161, 254, 33, 10, 33, 9] : List UInt8).take (IntKind.wrap .i64 ((2 : Int) * a_Kind)).toNat).drop (IntKind.wrap .i64 ((IntKind.wrap .i64 ((2 : Int) * a_Kind)) - (2 : Int))).toNat) ++ y_3) ++ y_4).length + y_5.length ≤ 9223372036854775807)) then (some ((((((([128, 0, 2, 1, 2, 3, 0, 5, 128, 6, 0, 9, 128, 8, 163, 0, 35, 3, 35, 1, 33, 255, 161, 254, 33, 10, 33, 9] : List UInt8).take (IntKind.wrap .i64 ((2 : Int) * a_Kind)).toNat).drop (IntKind.wrap .i64 ((IntKind.wrap .i64 ((2 : Int) * a_Kind)) - (2 : Int))).toNat) ++ y_3) ++ y_4) ++ y_5), (0 : Int))) else none)) else none)) else none)) else none))
def F30 (n : Nat) (a_Kind : Int) (a_Value : Int) (a_Index : Int) (a_Length : Int) : Option ((List UInt8) × Int) := ((F16 n a_Kind (1 : Int) (14 : Int)).bind fun y_6 => (bif (!y_6) then (F30_j2 n a_Kind a_Value a_Index a_Length true) else ((F83 n a_Kind a_Value).bind fun y_7 => (bif (!y_7) then (F30_j2 n a_Kind a_Value a_Index a_Length true) else ((F84 n a_Kind a_Index).bind fun y_8 => (bif (!y_8) then (F30_j2 n a_Kind a_Value a_Index a_Length true) else ((F85 n a_Kind a_Length).bind fun y_9 => (F30_j2 n a_Kind a_Value a_Index a_Length (!y_9)))))))))
theorem F30_ok (n : Nat) (a_Kind : Int) (a_Value : Int) (a_Index : Int) (a_Length : Int) (r : (List UInt8) × Int) (h : F30 n a_Kind a_Value a_Index a_Length = some r) : PureC Try.prog 30 [(.st (.cons (.int .i64 a_Kind) (.cons (.int .i64 a_Value) (.cons (.int .i64 a_Index) (.int .i64 a_Length)))))] (.tup (.cons (.str r.1) (.cons (.int .i64 r.2) .nil))) [] := by
  refine PureC.mkS Try.func30 rfl rfl ?_
  intro w0 fz0 hfz
  replace h : ((F16 n a_Kind (1 : Int) (14 : Int)).bind fun y_6 => (bif (!y_6) then (F30_j2 n a_Kind a_Value a_Index a_Length true) else ((F83 n a_Kind a_Value).bind fun y_7 => (bif (!y_7) then (F30_j2 n a_Kind a_Value a_Index a_Length true) else ((F84 n a_Kind a_Index).bind fun y_8 => (bif (!y_8) then (F30_j2 n a_Kind a_Value a_Index a_Length true) else ((F85 n a_Kind a_Length).bind fun y_9 => (F30_j2 n a_Kind a_Value a_Index a_Length (!y_9))))))))) = some r := h
  refine TS.seq ?_
  have hq : (True) ∧ ((True) ∧ ((True) ∧ (True))) := ⟨trivial, ⟨trivial, ⟨trivial, trivial⟩⟩⟩
  refine TS.reg [] ?_ ?_
  · apply prop_of ?_ hq
    kernel_rfl
  refine XS.then ?_
  refine TS.seq ?_
  refine TS.seq ?_
  refine TS.cut (D := Bool) (fun d => match d with | x => (mkTs 52 [(1, (.ptr 0 [])), (31, (.bool x))], [(.box 45 (.st (.cons (.int .i64 a_Kind) (.cons (.int .i64 a_Value) (.cons (.int .i64 a_Index) (.int .i64 a_Length))))))])) (fun d => F30_j2 n a_Kind a_Value a_Index a_Length d = some r) ?_ ?_
  · rintro x h
    replace h : (bif x then (some (([] : List UInt8), (1 : Int))) else (bif subB (([128, 0, 2, 1, 2, 3, 0, 5, 128, 6, 0, 9, 128, 8, 163, 0, 35, 3, 35, 1, 33, 255, 161, 254, 33, 10, 33, 9] : List UInt8).length) (some (IntKind.wrap .i64 ((IntKind.wrap .i64 ((2 : Int) * a_Kind)) - (2 : Int)))) (some (IntKind.wrap .i64 ((2 : Int) * a_Kind))) then ((F73 n a_Value).bind fun y_3 => (bif (decide (((([128, 0, 2, 1, 2, 3, 0, 5, 128, 6, 0, 9, 128, 8, 163, 0, 35, 3, 35, 1, 33, 255, 161, 254, 33, 10, 33, 9] : List UInt8).take (IntKind.wrap .i64 ((2 : Int) * a_Kind)).toNat).drop (IntKind.wrap .i64 ((IntKind.wrap .i64 ((2 : Int) * a_Kind)) - (2 : Int))).toNat).length + y_3.length ≤ 9223372036854775807)) then ((F73 n a_Index).bind fun y_4 => (bif (decide ((((([128, 0, 2, 1, 2, 3, 0, 5, 128, 6, 0, 9, 128, 8, 163, 0, 35, 3, 35, 1, 33, 255, 161, 254, 33, 10, 33, 9] : List UInt8).take (IntKind.wrap .i64 ((2 : Int) * a_Kind)).toNat).drop (IntKind.wrap .i64 ((IntKind.wrap .i64 ((2 : Int) * a_Kind)) - (2 : Int))).toNat) ++ y_3).length + y_4.length ≤ 9223372036854775807)) then ((F73 n a_Length).bind fun y_5 => (bif (decide (((((([128, 0, 2, 1, 2, 3, 0, 5, 128, 6, 0, 9, 128, 8, 163, 0, 35, 3, 35, 1, 33, 255, 161, 254, 33, 10, 33, 9] : List UInt8).take (IntKind.wrap .i64 ((2 : Int) * a_Kind)).toNat).drop (IntKind.wrap .i64 ((IntKind.wrap .i64 ((2 : Int) * a_Kind)) - (2 : Int))).toNat) ++ y_3) ++ y_4).length + y_5.length ≤ 9223372036854775807)) then (some ((((((([128, 0, 2, 1, 2, 3, 0, 5, 128, 6, 0, 9, 128, 8, 163, 0, 35, 3, 35, 1, 33, 255, 161, 254, 33, 10, 33, 9] : List UInt8).take (IntKind.wrap .i64 ((2 : Int) * a_Kind)).toNat).drop (IntKind.wrap .i64 ((IntKind.wrap .i64 ((2 : Int) * a_Kind)) - (2 : Int))).toNat) ++ y_3) ++ y_4) ++ y_5), (0 : Int))) else none)) else none)) else none)) else none)) = some r := h
    refine XS.then ?_
    rcases bif_some h with ⟨c1, h⟩ | ⟨c2, h⟩
    · refine TS.cond x ?_ (fun e => ?_) (fun e => by rw [c1] at e; cases e)
      · kernel_rfl
      refine TS.seq ?_
      have hq : (True) ∧ ((True) ∧ (True)) := ⟨trivial, ⟨trivial, trivial⟩⟩
      refine TS.reg [] ?_ ?_
      · apply prop_of ?_ hq
        kernel_rfl
      refine XS.then ?_
      refine TS.ret ?_
      refine XS.passR ?_
      obtain rfl : (([] : List UInt8), (1 : Int)) = r := Option.some.inj h
      exact XS.fin [] ((True) ∧ ((True) ∧ (True))) (by kernel_rfl) ⟨trivial, ⟨trivial, trivial⟩⟩
    · refine TS.cond x ?_ (fun e => by rw [c2] at e; cases e) (fun e => ?_)
      · kernel_rfl
      refine TS.skip ?_
      refine XS.then ?_
      refine TS.seq ?_
      obtain ⟨t3, h⟩ := test_some h
      obtain ⟨y_3, hx4, h⟩ := bind_some' h
      obtain ⟨t5, h⟩ := test_some h
      obtain ⟨y_4, hx6, h⟩ := bind_some' h
      obtain ⟨t7, h⟩ := test_some h
      obtain ⟨y_5, hx8, h⟩ := bind_some' h
      obtain ⟨t9, h⟩ := test_some h
      have hq : ((True) ∧ ((True) ∧ ((True) ∧ ((True) ∧ ((True) ∧ ((True) ∧ ((True) ∧ ((subC ([128, 0, 2, 1, 2, 3, 0, 5, 128, 6, 0, 9, 128, 8, 163, 0, 35, 3, 35, 1, 33, 255, 161, 254, 33, 10, 33, 9] : List UInt8).length (some (IntKind.wrap .i64 ((IntKind.wrap .i64 ((2 : Int) * a_Kind)) - (2 : Int)))) (some (IntKind.wrap .i64 ((2 : Int) * a_Kind)))) ∧ ((True) ∧ ((True) ∧ ((PureC Try.prog 73 [(.int .i64 a_Value)] (.str y_3) []) ∧ ((((([128, 0, 2, 1, 2, 3, 0, 5, 128, 6, 0, 9, 128, 8, 163, 0, 35, 3, 35, 1, 33, 255, 161, 254, 33, 10, 33, 9] : List UInt8).take (IntKind.wrap .i64 ((2 : Int) * a_Kind)).toNat).drop (IntKind.wrap .i64 ((IntKind.wrap .i64 ((2 : Int) * a_Kind)) - (2 : Int))).toNat).length + y_3.length ≤ 9223372036854775807) ∧ ((True) ∧ ((True) ∧ ((PureC Try.prog 73 [(.int .i64 a_Index)] (.str y_4) []) ∧ (((((([128, 0, 2, 1, 2, 3, 0, 5, 128, 6, 0, 9, 128, 8, 163, 0, 35, 3, 35, 1, 33, 255, 161, 254, 33, 10, 33, 9] : List UInt8).take (IntKind.wrap .i64 ((2 : Int) * a_Kind)).toNat).drop (IntKind.wrap .i64 ((IntKind.wrap .i64 ((2 : Int) * a_Kind)) - (2 : Int))).toNat) ++ y_3).length + y_4.length ≤ 9223372036854775807) ∧ ((True) ∧ ((True) ∧ ((PureC Try.prog 73 [(.int .i64 a_Length)] (.str y_5) []) ∧ ((((((([128, 0, 2, 1, 2, 3, 0, 5, 128, 6, 0, 9, 128, 8, 163, 0, 35, 3, 35, 1, 33, 255, 161, 254, 33, 10, 33, 9] : List UInt8).take (IntKind.wrap .i64 ((2 : Int) * a_Kind)).toNat).drop (IntKind.wrap .i64 ((IntKind.wrap .i64 ((2 : Int) * a_Kind)) - (2 : Int))).toNat) ++ y_3) ++ y_4).length + y_5.length ≤ 9223372036854775807) ∧ (True))))))))))))))))))))) ∧ ((True) ∧ ((True) ∧ (True))) := ⟨⟨trivial, ⟨trivial, ⟨trivial, ⟨trivial, ⟨trivial, ⟨trivial, ⟨trivial, ⟨subB_ok t3, ⟨trivial, ⟨trivial, ⟨F73_ok n a_Value y_3 hx4, ⟨of_decide_eq_true t5, ⟨trivial, ⟨trivial, ⟨F73_ok n a_Index y_4 hx6, ⟨of_decide_eq_true t7, ⟨trivial, ⟨trivial, ⟨F73_ok n a_Length y_5 hx8, ⟨of_decide_eq_true t9, trivial⟩⟩⟩⟩⟩⟩⟩⟩⟩⟩⟩⟩⟩⟩⟩⟩⟩⟩⟩⟩, ⟨trivial, ⟨trivial, trivial⟩⟩⟩
      refine TS.draw 20 [] [.none, .none, .none, .none, .none, .none, .none, .none, .none, .none, (.call (.str y_3) []), .none, .none, .none, (.call (.str y_4) []), .none, .none, .none, (.call (.str y_5) [])] (by kernel_rfl) ?_ ?_
      · apply prop_of ?_ hq
        kernel_rfl
      refine XS.then ?_
      refine TS.ret ?_
      obtain rfl : ((((((([128, 0, 2, 1, 2, 3, 0, 5, 128, 6, 0, 9, 128, 8, 163, 0, 35, 3, 35, 1, 33, 255, 161, 254, 33, 10, 33, 9] : List UInt8).take (IntKind.wrap .i64 ((2 : Int) * a_Kind)).toNat).drop (IntKind.wrap .i64 ((IntKind.wrap .i64 ((2 : Int) * a_Kind)) - (2 : Int))).toNat) ++ y_3) ++ y_4) ++ y_5), (0 : Int)) = r := Option.some.inj h
      exact XS.fin [] ((True) ∧ ((True) ∧ (True))) (by kernel_rfl) ⟨trivial, ⟨trivial, trivial⟩⟩
  · obtain ⟨y_6, hx10, h⟩ := bind_some' h
    rcases bif_some h with ⟨c11, h⟩ | ⟨c12, h⟩
    · have hq : (True) ∧ ((True) ∧ ((PureC Try.prog 16 [(.int .i64 a_Kind), (.int .i64 (1 : Int)), (.int .i64 (14 : Int))] (.bool y_6) []) ∧ ((True) ∧ (((True) ∧ (!y_6) = true) ∧ ((True) ∧ ((True) ∧ ((True) ∧ ((True) ∧ ((True) ∧ (True)))))))))) := ⟨trivial, ⟨trivial, ⟨F16_ok n a_Kind (1 : Int) (14 : Int) y_6 hx10, ⟨trivial, ⟨⟨trivial, c11⟩, ⟨trivial, ⟨trivial, ⟨trivial, ⟨trivial, ⟨trivial, trivial⟩⟩⟩⟩⟩⟩⟩⟩⟩⟩
      refine TS.reg [.none, .none, (.call (.bool y_6) []), .none, .dec true] ?_ ?_
      · apply prop_of ?_ hq
        kernel_rfl
      refine XS.reAny [0] (mkMask 52 [1, 31]) true h ?_
      kernel_rfl
    · obtain ⟨y_7, hx13, h⟩ := bind_some' h
      rcases bif_some h with ⟨c14, h⟩ | ⟨c15, h⟩
      · have hq : (True) ∧ ((True) ∧ ((PureC Try.prog 16 [(.int .i64 a_Kind), (.int .i64 (1 : Int)), (.int .i64 (14 : Int))] (.bool y_6) []) ∧ ((True) ∧ (((True) ∧ (!y_6) = false) ∧ ((True) ∧ ((True) ∧ ((True) ∧ ((True) ∧ ((PureC Try.prog 83 [(.int .i64 a_Kind), (.int .i64 a_Value)] (.bool y_7) []) ∧ ((True) ∧ ((True) ∧ (((True) ∧ (!y_7) = true) ∧ ((True) ∧ ((True) ∧ ((True) ∧ (True)))))))))))))))) := ⟨trivial, ⟨trivial, ⟨F16_ok n a_Kind (1 : Int) (14 : Int) y_6 hx10, ⟨trivial, ⟨⟨trivial, c12⟩, ⟨trivial, ⟨trivial, ⟨trivial, ⟨trivial, ⟨F83_ok n a_Kind a_Value y_7 hx13, ⟨trivial, ⟨trivial, ⟨⟨trivial, c14⟩, ⟨trivial, ⟨trivial, ⟨trivial, trivial⟩⟩⟩⟩⟩⟩⟩⟩⟩⟩⟩⟩⟩⟩⟩⟩
        refine TS.reg [.none, .none, (.call (.bool y_6) []), .none, .dec false, .none, .none, .none, .none, (.call (.bool y_7) []), .none, .none, .dec true] ?_ ?_
        · apply prop_of ?_ hq
          kernel_rfl
        refine XS.reAny [0] (mkMask 52 [1, 31]) true h ?_
        kernel_rfl
      · obtain ⟨y_8, hx16, h⟩ := bind_some' h
        rcases bif_some h with ⟨c17, h⟩ | ⟨c18, h⟩
        · have hq : (True) ∧ ((True) ∧ ((PureC Try.prog 16 [(.int .i64 a_Kind), (.int .i64 (1 : Int)), (.int .i64 (14 : Int))] (.bool y_6) []) ∧ ((True) ∧ (((True) ∧ (!y_6) = false) ∧ ((True) ∧ ((True) ∧ ((True) ∧ ((True) ∧ ((PureC Try.prog 83 [(.int .i64 a_Kind), (.int .i64 a_Value)] (.bool y_7) []) ∧ ((True) ∧ ((True) ∧ (((True) ∧ (!y_7) = false) ∧ ((True) ∧ ((True) ∧ ((True) ∧ ((True) ∧ ((PureC Try.prog 84 [(.int .i64 a_Kind), (.int .i64 a_Index)] (.bool y_8) []) ∧ ((True) ∧ ((True) ∧ (((True) ∧ (!y_8) = true) ∧ ((True) ∧ (True)))))))))))))))))))))) := ⟨trivial, ⟨trivial, ⟨F16_ok n a_Kind (1 : Int) (14 : Int) y_6 hx10, ⟨trivial, ⟨⟨trivial, c12⟩, ⟨trivial, ⟨trivial, ⟨trivial, ⟨trivial, ⟨F83_ok n a_Kind a_Value y_7 hx13, ⟨trivial, ⟨trivial, ⟨⟨trivial, c15⟩, ⟨trivial, ⟨trivial, ⟨trivial, ⟨trivial, ⟨F84_ok n a_Kind a_Index y_8 hx16, ⟨trivial, ⟨trivial, ⟨⟨trivial, c17⟩, ⟨trivial, trivial⟩⟩⟩⟩⟩⟩⟩⟩⟩⟩⟩⟩⟩⟩⟩⟩⟩⟩⟩⟩⟩⟩
          refine TS.reg [.none, .none, (.call (.bool y_6) []), .none, .dec false, .none, .none, .none, .none, (.call (.bool y_7) []), .none, .none, .dec false, .none, .none, .none, .none, (.call (.bool y_8) []), .none, .none, .dec true] ?_ ?_
          · apply prop_of ?_ hq
            kernel_rfl
          refine XS.reAny [0] (mkMask 52 [1, 31]) true h ?_
          kernel_rfl
        · obtain ⟨y_9, hx19, h⟩ := bind_some' h
          have hq : (True) ∧ ((True) ∧ ((PureC Try.prog 16 [(.int .i64 a_Kind), (.int .i64 (1 : Int)), (.int .i64 (14 : Int))] (.bool y_6) []) ∧ ((True) ∧ (((True) ∧ (!y_6) = false) ∧ ((True) ∧ ((True) ∧ ((True) ∧ ((True) ∧ ((PureC Try.prog 83 [(.int .i64 a_Kind), (.int .i64 a_Value)] (.bool y_7) []) ∧ ((True) ∧ ((True) ∧ (((True) ∧ (!y_7) = false) ∧ ((True) ∧ ((True) ∧ ((True) ∧ ((True) ∧ ((PureC Try.prog 84 [(.int .i64 a_Kind), (.int .i64 a_Index)] (.bool y_8) []) ∧ ((True) ∧ ((True) ∧ (((True) ∧ (!y_8) = false) ∧ ((True) ∧ ((True) ∧ ((True) ∧ ((True) ∧ ((PureC Try.prog 85 [(.int .i64 a_Kind), (.int .i64 a_Length)] (.bool y_9) []) ∧ ((True) ∧ ((True) ∧ (True)))))))))))))))))))))))))))) := ⟨trivial, ⟨trivial, ⟨F16_ok n a_Kind (1 : Int) (14 : Int) y_6 hx10, ⟨trivial, ⟨⟨trivial, c12⟩, ⟨trivial, ⟨trivial, ⟨trivial, ⟨trivial, ⟨F83_ok n a_Kind a_Value y_7 hx13, ⟨trivial, ⟨trivial, ⟨⟨trivial, c15⟩, ⟨trivial, ⟨trivial, ⟨trivial, ⟨trivial, ⟨F84_ok n a_Kind a_Index y_8 hx16, ⟨trivial, ⟨trivial, ⟨⟨trivial, c18⟩, ⟨trivial, ⟨trivial, ⟨trivial, ⟨trivial, ⟨F85_ok n a_Kind a_Length y_9 hx19, ⟨trivial, ⟨trivial, trivial⟩⟩⟩⟩⟩⟩⟩⟩⟩⟩⟩⟩⟩⟩⟩⟩⟩⟩⟩⟩⟩⟩⟩⟩⟩⟩⟩⟩
          refine TS.reg [.none, .none, (.call (.bool y_6) []), .none, .dec false, .none, .none, .none, .none, (.call (.bool y_7) []), .none, .none, .dec false, .none, .none, .none, .none, (.call (.bool y_8) []), .none, .none, .dec false, .none, .none, .none, .none, (.call (.bool y_9) [])] ?_ ?_
          · apply prop_of ?_ hq
            kernel_rfl
          refine XS.reAny [0] (mkMask 52 [1, 31]) (!y_9) h ?_
          kernel_rfl

/-! plugtree/pluglaw.SetupWrites -/
def F6 (n : Nat) (a_Kind : Int) (a_Value : Int) (a_Index : Int) (a_Length : Int) : Option Bool := ((F29 n a_Kind a_Value a_Index a_Length).bind fun y_2 => ((F30 n a_Kind a_Value a_Index a_Length).bind fun y_3 => (bif (y_2.1 == y_3.1) then (some (y_2.2 == y_3.2)) else (some false))))
theorem F6_ok (n : Nat) (a_Kind : Int) (a_Value : Int) (a_Index : Int) (a_Length : Int) (r : Bool) (h : F6 n a_Kind a_Value a_Index a_Length = some r) : PureC Try.prog 6 [(.st (.cons (.int .i64 a_Kind) (.cons (.int .i64 a_Value) (.cons (.int .i64 a_Index) (.int .i64 a_Length)))))] (.bool r) [] := by
  refine PureC.mkS Try.func6 rfl rfl ?_
  intro w0 fz0 hfz
  replace h : ((F29 n a_Kind a_Value a_Index a_Length).bind fun y_2 => ((F30 n a_Kind a_Value a_Index a_Length).bind fun y_3 => (bif (y_2.1 == y_3.1) then (some (y_2.2 == y_3.2)) else (some false)))) = some r := h
  refine TS.seq ?_
  have hq : (True) ∧ ((True) ∧ (True)) := ⟨trivial, ⟨trivial, trivial⟩⟩
  refine TS.reg [] ?_ ?_
  · apply prop_of ?_ hq
    kernel_rfl
  refine XS.then ?_
  refine TS.seq ?_
  obtain ⟨y_2, hx1, h⟩ := bind_some' h
  have hq : (True) ∧ ((PureC Try.prog 29 [(.st (.cons (.int .i64 a_Kind) (.cons (.int .i64 a_Value) (.cons (.int .i64 a_Index) (.int .i64 a_Length)))))] (.tup (.cons (.str y_2.1) (.cons (.int .i64 y_2.2) .nil))) []) ∧ ((True) ∧ ((True) ∧ ((True) ∧ ((True) ∧ ((True) ∧ (True))))))) := ⟨trivial, ⟨F29_ok n a_Kind a_Value a_Index a_Length y_2 hx1, ⟨trivial, ⟨trivial, ⟨trivial, ⟨trivial, ⟨trivial, trivial⟩⟩⟩⟩⟩⟩⟩
  refine TS.reg [.none, (.call (.tup (.cons (.str y_2.1) (.cons (.int .i64 y_2.2) .nil))) [])] ?_ ?_
  · apply prop_of ?_ hq
    kernel_rfl
  refine XS.then ?_
  refine TS.seq ?_
  obtain ⟨y_3, hx2, h⟩ := bind_some' h
  have hq : (True) ∧ ((PureC Try.prog 30 [(.st (.cons (.int .i64 a_Kind) (.cons (.int .i64 a_Value) (.cons (.int .i64 a_Index) (.int .i64 a_Length)))))] (.tup (.cons (.str y_3.1) (.cons (.int .i64 y_3.2) .nil))) []) ∧ ((True) ∧ ((True) ∧ ((True) ∧ ((True) ∧ ((True) ∧ (True))))))) := ⟨trivial, ⟨F30_ok n a_Kind a_Value a_Index a_Length y_3 hx2, ⟨trivial, ⟨trivial, ⟨trivial, ⟨trivial, ⟨trivial, trivial⟩⟩⟩⟩⟩⟩⟩
  refine TS.reg [.none, (.call (.tup (.cons (.str y_3.1) (.cons (.int .i64 y_3.2) .nil))) [])] ?_ ?_
  · apply prop_of ?_ hq
    kernel_rfl
  refine XS.then ?_
  refine TS.seq ?_
  rcases bif_some h with ⟨c3, h⟩ | ⟨c4, h⟩
  · have hq : (True) ∧ ((True) ∧ ((True) ∧ (((True) ∧ (y_2.1 == y_3.1) = true) ∧ ((True) ∧ ((True) ∧ ((True) ∧ ((True) ∧ ((True) ∧ (True))))))))) := ⟨trivial, ⟨trivial, ⟨trivial, ⟨⟨trivial, c3⟩, ⟨trivial, ⟨trivial, ⟨trivial, ⟨trivial, ⟨trivial, trivial⟩⟩⟩⟩⟩⟩⟩⟩⟩
    refine TS.reg [.none, .none, .none, .dec true] ?_ ?_
    · apply prop_of ?_ hq
      kernel_rfl
    refine XS.then ?_
    refine TS.ret ?_
    obtain rfl : (y_2.2 == y_3.2) = r := Option.some.inj h
    exact XS.fin [] ((True) ∧ (True)) (by kernel_rfl) ⟨trivial, trivial⟩
  · have hq : (True) ∧ ((True) ∧ ((True) ∧ (((True) ∧ (y_2.1 == y_3.1) = false) ∧ ((True) ∧ ((True) ∧ (True)))))) := ⟨trivial, ⟨trivial, ⟨trivial, ⟨⟨trivial, c4⟩, ⟨trivial, ⟨trivial, trivial⟩⟩⟩⟩⟩⟩
    refine TS.reg [.none, .none, .none, .dec false] ?_ ?_
    · apply prop_of ?_ hq
      kernel_rfl
    refine XS.then ?_
    refine TS.ret ?_
    obtain rfl : false = r := Option.some.inj h
    exact XS.fin [] ((True) ∧ (True)) (by kernel_rfl) ⟨trivial, trivial⟩

/-! plugtree/setup.Read$1 -/
def F106 (n : Nat) (i : Int) (x : List UInt8) : Option Int := (bif inb i x.length then (bif inb (IntKind.wrap .i64 (i + (1 : Int))) x.length then (some (bitsI .or .i64 (IntKind.wrap .i64 ((((x.getD i.toNat 0).toNat : Nat) : Int))) (shlI .i64 (IntKind.wrap .i64 ((((x.getD ((IntKind.wrap .i64 (i + (1 : Int))).toNat) 0).toNat : Nat) : Int))) (8 : Int)))) else none) else none)
theorem F106_ok (n : Nat) (i : Int) (x : List UInt8) (r : Int) (h : F106 n i x = some r) : PureC Try.prog 106 [(.int .i64 i), (.pv (.str x))] (.int .i64 r) [] := by
  refine PureC.mkS Try.func106 rfl rfl ?_
  intro w0 fz0 hfz
  replace h : (bif inb i x.length then (bif inb (IntKind.wrap .i64 (i + (1 : Int))) x.length then (some (bitsI .or .i64 (IntKind.wrap .i64 ((((x.getD i.toNat 0).toNat : Nat) : Int))) (shlI .i64 (IntKind.wrap .i64 ((((x.getD ((IntKind.wrap .i64 (i + (1 : Int))).toNat) 0).toNat : Nat) : Int))) (8 : Int)))) else none) else none) = some r := h
  refine TS.seq ?_
  have hq : (True) ∧ (True) := ⟨trivial, trivial⟩
  refine TS.reg [] ?_ ?_
  · apply prop_of ?_ hq
    kernel_rfl
  refine XS.then ?_
  refine TS.seq ?_
  obtain ⟨t1, h⟩ := test_some h
  obtain ⟨t2, h⟩ := test_some h
  have hq : ((True) ∧ ((True) ∧ ((inR i x.length) ∧ ((True) ∧ ((True) ∧ ((True) ∧ ((True) ∧ ((inR (IntKind.wrap .i64 (i + (1 : Int))) x.length) ∧ ((True) ∧ ((0 ≤ (8 : Int)) ∧ ((True) ∧ (True)))))))))))) ∧ ((True) ∧ (True)) := ⟨⟨trivial, ⟨trivial, ⟨inb_ok t1, ⟨trivial, ⟨trivial, ⟨trivial, ⟨trivial, ⟨inb_ok t2, ⟨trivial, ⟨by decide, ⟨trivial, trivial⟩⟩⟩⟩⟩⟩⟩⟩⟩⟩⟩, ⟨trivial, trivial⟩⟩
  refine TS.draw 11 [] [] (by kernel_rfl) ?_ ?_
  · apply prop_of ?_ hq
    kernel_rfl
  refine XS.then ?_
  refine TS.ret ?_
  obtain rfl : (bitsI .or .i64 (IntKind.wrap .i64 ((((x.getD i.toNat 0).toNat : Nat) : Int))) (shlI .i64 (IntKind.wrap .i64 ((((x.getD ((IntKind.wrap .i64 (i + (1 : Int))).toNat) 0).toNat : Nat) : Int))) (8 : Int))) = r := Option.some.inj h
  exact XS.fin [] ((True) ∧ (True)) (by kernel_rfl) ⟨trivial, trivial⟩

/-! plugtree/setup.Read -/
def F55_l2 (n : Nat) (s : List UInt8) (k55_2 : Int → Option (Int × Int × Int × Int × Int)) : Int → Option (Int × Int × Int × Int × Int)
  | kind => (bif (decide (kind ≤ (14 : Int))) then ((F106 n (2 : Int) s).bind fun y_6 => ((F106 n (4 : Int) s).bind fun y_7 => ((F106 n (6 : Int) s).bind fun y_8 => ((F29 n kind y_6 y_7 y_8).bind fun y_9 => (bif (y_9.2 == (0 : Int)) then (bif (y_9.1 == s) then (some (kind, y_6, y_7, y_8, (0 : Int))) else (k55_2 (IntKind.wrap .i64 (kind + (1 : Int))))) else (k55_2 (IntKind.wrap .i64 (kind + (1 : Int))))))))) else (some ((0 : Int), (0 : Int), (0 : Int), (0 : Int), (12 : Int))))
def F55 (n : Nat) (s : List UInt8) : Option (Int × Int × Int × Int × Int) := (bif (decide (((s.length : Nat) : Int) < (8 : Int))) then (some ((0 : Int), (0 : Int), (0 : Int), (0 : Int), (3 : Int))) else (bif (decide (((s.length : Nat) : Int) > (8 : Int))) then (some ((0 : Int), (0 : Int), (0 : Int), (0 : Int), (4 : Int))) else (loopF (F55_l2 n s) n (1 : Int))))
theorem F55_ok (n : Nat) (s : List UInt8) (r : Int × Int × Int × Int × Int) (h : F55 n s = some r) : PureC Try.prog 55 [(.str s)] (.tup (.cons (.st (.cons (.int .i64 r.1) (.cons (.int .i64 r.2.1) (.cons (.int .i64 r.2.2.1) (.int .i64 r.2.2.2.1))))) (.cons (.int .i64 r.2.2.2.2) .nil))) [] := by
  refine PureC.mkS Try.func55 rfl rfl ?_
  intro w0 fz0 hfz
  replace h : (bif (decide (((s.length : Nat) : Int) < (8 : Int))) then (some ((0 : Int), (0 : Int), (0 : Int), (0 : Int), (3 : Int))) else (bif (decide (((s.length : Nat) : Int) > (8 : Int))) then (some ((0 : Int), (0 : Int), (0 : Int), (0 : Int), (4 : Int))) else (loopF (F55_l2 n s) n (1 : Int)))) = some r := h
  refine TS.seq ?_
  have hq : (True) ∧ ((True) ∧ ((True) ∧ (True))) := ⟨trivial, ⟨trivial, ⟨trivial, trivial⟩⟩⟩
  refine TS.reg [] ?_ ?_
  · apply prop_of ?_ hq
    kernel_rfl
  refine XS.then ?_
  refine TS.seq ?_
  refine TS.block ?_
  refine TS.seq ?_
  have hq : (True) ∧ ((True) ∧ ((True) ∧ ((True) ∧ (True)))) := ⟨trivial, ⟨trivial, ⟨trivial, ⟨trivial, trivial⟩⟩⟩⟩
  refine TS.reg [] ?_ ?_
  · apply prop_of ?_ hq
    kernel_rfl
  refine XS.then ?_
  rcases bif_some h with ⟨c1, h⟩ | ⟨c2, h⟩
  · refine TS.cond (decide (((s.length : Nat) : Int) < (8 : Int))) ?_ (fun e => ?_) (fun e => by rw [c1] at e; cases e)
    · kernel_rfl
    refine TS.seq ?_
    have hq : (True) ∧ ((True) ∧ ((True) ∧ (True))) := ⟨trivial, ⟨trivial, ⟨trivial, trivial⟩⟩⟩
    refine TS.reg [] ?_ ?_
    · apply prop_of ?_ hq
      kernel_rfl
    refine XS.then ?_
    refine TS.ret ?_
    refine XS.blockRet ?_
    refine XS.passR ?_
    obtain rfl : ((0 : Int), (0 : Int), (0 : Int), (0 : Int), (3 : Int)) = r := Option.some.inj h
    exact XS.fin [] ((True) ∧ ((True) ∧ (True))) (by kernel_rfl) ⟨trivial, ⟨trivial, trivial⟩⟩
  · refine TS.cond (decide (((s.length : Nat) : Int) < (8 : Int))) ?_ (fun e => by rw [c2] at e; cases e) (fun e => ?_)
    · kernel_rfl
    refine TS.seq ?_
    have hq : (True) ∧ ((True) ∧ ((True) ∧ ((True) ∧ (True)))) := ⟨trivial, ⟨trivial, ⟨trivial, ⟨trivial, trivial⟩⟩⟩⟩
    refine TS.reg [] ?_ ?_
    · apply prop_of ?_ hq
      kernel_rfl
    refine XS.then ?_
    rcases bif_some h with ⟨c3, h⟩ | ⟨c4, h⟩
    · refine TS.cond (decide (((s.length : Nat) : Int) > (8 : Int))) ?_ (fun e => ?_) (fun e => by rw [c3] at e; cases e)
      · kernel_rfl
      refine TS.seq ?_
      have hq : (True) ∧ ((True) ∧ ((True) ∧ (True))) := ⟨trivial, ⟨trivial, ⟨trivial, trivial⟩⟩⟩
      refine TS.reg [] ?_ ?_
      · apply prop_of ?_ hq
        kernel_rfl
      refine XS.then ?_
      refine TS.ret ?_
      refine XS.blockRet ?_
      refine XS.passR ?_
      obtain rfl : ((0 : Int), (0 : Int), (0 : Int), (0 : Int), (4 : Int)) = r := Option.some.inj h
      exact XS.fin [] ((True) ∧ ((True) ∧ (True))) (by kernel_rfl) ⟨trivial, ⟨trivial, trivial⟩⟩
    · refine TS.cond (decide (((s.length : Nat) : Int) > (8 : Int))) ?_ (fun e => by rw [c4] at e; cases e) (fun e => ?_)
      · kernel_rfl
      refine TS.skip ?_
      refine XS.blockEnd ?_
      refine XS.then ?_
      refine TS.seq ?_
      have hq : (True) ∧ ((True) ∧ (True)) := ⟨trivial, ⟨trivial, trivial⟩⟩
      refine TS.reg [] ?_ ?_
      · apply prop_of ?_ hq
        kernel_rfl
      refine XS.then ?_
      refine TS.seq ?_
      refine TS.seq ?_
      have hq : (True) ∧ (True) := ⟨trivial, trivial⟩
      refine TS.reg [] ?_ ?_
      · apply prop_of ?_ hq
        kernel_rfl
      refine XS.then ?_
      refine TS.block ?_
      refine TS.reLoop [0, 1] (mkMask 46 [1, 2, 4, 5]) (D := Int) (fun d => match d with | kind => (mkTs 46 [(1, (.ptr 0 [])), (2, (.ptr 1 [])), (4, (.fn 106 (.cons (.ptr 0 []) .nil))), (5, (.int .i64 kind))], [(.box 9 (.str s)), (.box 45 (.st (.cons (.int .i64 (0 : Int)) (.cons (.int .i64 (0 : Int)) (.cons (.int .i64 (0 : Int)) (.int .i64 (0 : Int)))))))])) (fun n' d => loopF (F55_l2 n s) n' d = some r) n (1 : Int) h ?_ (fun d => loopF_zero _ d r) ?_
      · kernel_rfl
      · rintro n2 kind h
        replace h : (bif (decide (kind ≤ (14 : Int))) then ((F106 n (2 : Int) s).bind fun y_6 => ((F106 n (4 : Int) s).bind fun y_7 => ((F106 n (6 : Int) s).bind fun y_8 => ((F29 n kind y_6 y_7 y_8).bind fun y_9 => (bif (y_9.2 == (0 : Int)) then (bif (y_9.1 == s) then (some (kind, y_6, y_7, y_8, (0 : Int))) else ((loopF (F55_l2 n s) n2) (IntKind.wrap .i64 (kind + (1 : Int))))) else ((loopF (F55_l2 n s) n2) (IntKind.wrap .i64 (kind + (1 : Int))))))))) else (some ((0 : Int), (0 : Int), (0 : Int), (0 : Int), (12 : Int)))) = some r := h
        refine TS.seq ?_
        refine TS.seq ?_
        have hq : (True) ∧ ((True) ∧ (True)) := ⟨trivial, ⟨trivial, trivial⟩⟩
        refine TS.reg [] ?_ ?_
        · apply prop_of ?_ hq
          kernel_rfl
        refine XS.then ?_
        rcases bif_some h with ⟨c5, h⟩ | ⟨c6, h⟩
        · refine TS.cond (decide (kind ≤ (14 : Int))) ?_ (fun e => ?_) (fun e => by rw [c5] at e; cases e)
          · kernel_rfl
          refine TS.skip ?_
          refine XS.then ?_
          refine TS.seq ?_
          refine TS.block ?_
          refine TS.seq ?_
          obtain ⟨y_6, hx7, h⟩ := bind_some' h
          obtain ⟨y_7, hx8, h⟩ := bind_some' h
          obtain ⟨y_8, hx9, h⟩ := bind_some' h
          have hq : (True) ∧ ((True) ∧ ((((True) ∧ ((True) ∧ (True))) ∧ PureC Try.prog 106 [(.int .i64 (2 : Int)), (.pv (.str s))] (.int .i64 y_6) []) ∧ ((True) ∧ ((((True) ∧ ((True) ∧ (True))) ∧ PureC Try.prog 106 [(.int .i64 (4 : Int)), (.pv (.str s))] (.int .i64 y_7) []) ∧ ((True) ∧ ((((True) ∧ ((True) ∧ (True))) ∧ PureC Try.prog 106 [(.int .i64 (6 : Int)), (.pv (.str s))] (.int .i64 y_8) []) ∧ (((True) ∧ ((True) ∧ ((True) ∧ ((True) ∧ (True))))) ∧ ((True) ∧ ((True) ∧ (True)))))))))) := ⟨trivial, ⟨trivial, ⟨⟨⟨trivial, ⟨trivial, trivial⟩⟩, F106_ok n (2 : Int) s y_6 hx7⟩, ⟨trivial, ⟨⟨⟨trivial, ⟨trivial, trivial⟩⟩, F106_ok n (4 : Int) s y_7 hx8⟩, ⟨trivial, ⟨⟨⟨trivial, ⟨trivial, trivial⟩⟩, F106_ok n (6 : Int) s y_8 hx9⟩, ⟨⟨trivial, ⟨trivial, ⟨trivial, ⟨trivial, trivial⟩⟩⟩⟩, ⟨trivial, ⟨trivial, trivial⟩⟩⟩⟩⟩⟩⟩⟩⟩⟩
          refine TS.reg [.none, .none, (.call (.int .i64 y_6) []), .none, (.call (.int .i64 y_7) []), .none, (.call (.int .i64 y_8) [])] ?_ ?_
          · apply prop_of ?_ hq
            kernel_rfl
          refine XS.then ?_
          refine TS.seq ?_
          obtain ⟨y_9, hx10, h⟩ := bind_some' h
          have hq : (True) ∧ ((PureC Try.prog 29 [(.st (.cons (.int .i64 kind) (.cons (.int .i64 y_6) (.cons (.int .i64 y_7) (.int .i64 y_8)))))] (.tup (.cons (.str y_9.1) (.cons (.int .i64 y_9.2) .nil))) []) ∧ ((True) ∧ ((True) ∧ ((True) ∧ ((True) ∧ ((True) ∧ (True))))))) := ⟨trivial, ⟨F29_ok n kind y_6 y_7 y_8 y_9 hx10, ⟨trivial, ⟨trivial, ⟨trivial, ⟨trivial, ⟨trivial, trivial⟩⟩⟩⟩⟩⟩⟩
          refine TS.reg [.none, (.call (.tup (.cons (.str y_9.1) (.cons (.int .i64 y_9.2) .nil))) [])] ?_ ?_
          · apply prop_of ?_ hq
            kernel_rfl
          refine XS.then ?_
          refine TS.seq ?_
          rcases bif_some h with ⟨c11, h⟩ | ⟨c12, h⟩
          · have hq : (True) ∧ ((True) ∧ (((True) ∧ (y_9.2 == (0 : Int)) = true) ∧ ((True) ∧ ((True) ∧ ((True) ∧ ((True) ∧ (True))))))) := ⟨trivial, ⟨trivial, ⟨⟨trivial, c11⟩, ⟨trivial, ⟨trivial, ⟨trivial, ⟨trivial, trivial⟩⟩⟩⟩⟩⟩⟩
            refine TS.reg [.none, .none, .dec true] ?_ ?_
            · apply prop_of ?_ hq
              kernel_rfl
            refine XS.then ?_
            rcases bif_some h with ⟨c13, h⟩ | ⟨c14, h⟩
            · refine TS.cond (y_9.1 == s) ?_ (fun e => ?_) (fun e => by rw [c13] at e; cases e)
              · kernel_rfl
              refine TS.seq ?_
              have hq : (True) ∧ ((True) ∧ ((True) ∧ (True))) := ⟨trivial, ⟨trivial, ⟨trivial, trivial⟩⟩⟩
              refine TS.reg [] ?_ ?_
              · apply prop_of ?_ hq
                kernel_rfl
              refine XS.then ?_
              refine TS.ret ?_
              refine XS.blockRet ?_
              refine XS.passR ?_
              refine XS.passR ?_
              refine XS.blockRet ?_
              refine XS.passR ?_
              obtain rfl : (kind, y_6, y_7, y_8, (0 : Int)) = r := Option.some.inj h
              exact XS.fin [] ((True) ∧ ((True) ∧ (True))) (by kernel_rfl) ⟨trivial, ⟨trivial, trivial⟩⟩
            · refine TS.cond (y_9.1 == s) ?_ (fun e => by rw [c14] at e; cases e) (fun e => ?_)
              · kernel_rfl
              refine TS.skip ?_
              refine XS.blockEnd ?_
              refine XS.then ?_
              have hq : (True) ∧ ((True) ∧ ((True) ∧ (True))) := ⟨trivial, ⟨trivial, ⟨trivial, trivial⟩⟩⟩
              refine TS.reg [] ?_ ?_
              · apply prop_of ?_ hq
                kernel_rfl
              refine XS.reAny [0, 1] (mkMask 46 [1, 2, 4, 5]) (IntKind.wrap .i64 (kind + (1 : Int))) h ?_
              kernel_rfl
          · have hq : (True) ∧ ((True) ∧ (((True) ∧ (y_9.2 == (0 : Int)) = false) ∧ ((True) ∧ (True)))) := ⟨trivial, ⟨trivial, ⟨⟨trivial, c12⟩, ⟨trivial, trivial⟩⟩⟩⟩
            refine TS.reg [.none, .none, .dec false] ?_ ?_
            · apply prop_of ?_ hq
              kernel_rfl
            refine XS.then ?_
            refine TS.no ?_ ?_
            · kernel_rfl
            refine TS.skip ?_
            refine XS.blockEnd ?_
            refine XS.then ?_
            have hq : (True) ∧ ((True) ∧ ((True) ∧ (True))) := ⟨trivial, ⟨trivial, ⟨trivial, trivial⟩⟩⟩
            refine TS.reg [] ?_ ?_
            · apply prop_of ?_ hq
              kernel_rfl
            refine XS.reAny [0, 1] (mkMask 46 [1, 2, 4, 5]) (IntKind.wrap .i64 (kind + (1 : Int))) h ?_
            kernel_rfl
        · refine TS.cond (decide (kind ≤ (14 : Int))) ?_ (fun e => by rw [c6] at e; cases e) (fun e => ?_)
          · kernel_rfl
          refine TS.exit ?_
          refine XS.passE ?_
          refine XS.passE ?_
          refine XS.out ?_
          refine XS.then ?_
          refine TS.seq ?_
          have hq : (True) ∧ ((True) ∧ ((True) ∧ (True))) := ⟨trivial, ⟨trivial, ⟨trivial, trivial⟩⟩⟩
          refine TS.reg [] ?_ ?_
          · apply prop_of ?_ hq
            kernel_rfl
          refine XS.then ?_
          refine TS.ret ?_
          obtain rfl : ((0 : Int), (0 : Int), (0 : Int), (0 : Int), (12 : Int)) = r := Option.some.inj h
          exact XS.fin [] ((True) ∧ ((True) ∧ (True))) (by kernel_rfl) ⟨trivial, ⟨trivial, trivial⟩⟩

/-! internal/stringslite.HasPrefix -/
def F117 (n : Nat) (s : List UInt8) (vprefix : List UInt8) : Option Bool := (bif (decide (((s.length : Nat) : Int) ≥ ((vprefix.length : Nat) : Int))) then (bif subB s.length none (some ((vprefix.length : Nat) : Int)) then (some ((s.take ((vprefix.length : Nat) : Int).toNat) == vprefix)) else none) else (some false))
theorem F117_ok (n : Nat) (s : List UInt8) (vprefix : List UInt8) (r : Bool) (h : F117 n s vprefix = some r) : PureC Try.prog 117 [(.str s), (.str vprefix)] (.bool r) [] := by
  refine PureC.mkS Try.func117 rfl rfl ?_
  intro w0 fz0 hfz
  replace h : (bif (decide (((s.length : Nat) : Int) ≥ ((vprefix.length : Nat) : Int))) then (bif subB s.length none (some ((vprefix.length : Nat) : Int)) then (some ((s.take ((vprefix.length : Nat) : Int).toNat) == vprefix)) else none) else (some false)) = some r := h
  refine TS.seq ?_
  have hq : (True) ∧ (True) := ⟨trivial, trivial⟩
  refine TS.reg [] ?_ ?_
  · apply prop_of ?_ hq
    kernel_rfl
  refine XS.then ?_
  refine TS.seq ?_
  rcases bif_some h with ⟨c1, h⟩ | ⟨c2, h⟩
  · obtain ⟨t3, h⟩ := test_some h
    have hq : (True) ∧ ((True) ∧ ((True) ∧ ((True) ∧ ((True) ∧ (((True) ∧ (decide (((s.length : Nat) : Int) ≥ ((vprefix.length : Nat) : Int))) = true) ∧ ((True) ∧ ((True) ∧ ((True) ∧ ((subC s.length none (some ((vprefix.length : Nat) : Int))) ∧ ((True) ∧ ((True) ∧ ((True) ∧ ((True) ∧ (True)))))))))))))) := ⟨trivial, ⟨trivial, ⟨trivial, ⟨trivial, ⟨trivial, ⟨⟨trivial, c1⟩, ⟨trivial, ⟨trivial, ⟨trivial, ⟨subB_ok t3, ⟨trivial, ⟨trivial, ⟨trivial, ⟨trivial, trivial⟩⟩⟩⟩⟩⟩⟩⟩⟩⟩⟩⟩⟩⟩
    refine TS.reg [.none, .none, .none, .none, .none, .dec true] ?_ ?_
    · apply prop_of ?_ hq
      kernel_rfl
    refine XS.then ?_
    refine TS.ret ?_
    obtain rfl : ((s.take ((vprefix.length : Nat) : Int).toNat) == vprefix) = r := Option.some.inj h
    exact XS.fin [] ((True) ∧ (True)) (by kernel_rfl) ⟨trivial, trivial⟩
  · have hq : (True) ∧ ((True) ∧ ((True) ∧ ((True) ∧ ((True) ∧ (((True) ∧ (decide (((s.length : Nat) : Int) ≥ ((vprefix.length : Nat) : Int))) = false) ∧ ((True) ∧ ((True) ∧ (True)))))))) := ⟨trivial, ⟨trivial, ⟨trivial, ⟨trivial, ⟨trivial, ⟨⟨trivial, c2⟩, ⟨trivial, ⟨trivial, trivial⟩⟩⟩⟩⟩⟩⟩⟩
    refine TS.reg [.none, .none, .none, .none, .none, .dec false] ?_ ?_
    · apply prop_of ?_ hq
      kernel_rfl
    refine XS.then ?_
    refine TS.ret ?_
    obtain rfl : false = r := Option.some.inj h
    exact XS.fin [] ((True) ∧ (True)) (by kernel_rfl) ⟨trivial, trivial⟩

/-! strings.HasPrefix -/
def F107 (n : Nat) (s : List UInt8) (vprefix : List UInt8) : Option Bool := ((F117 n s vprefix).bind fun y_2 => (some y_2))
theorem F107_ok (n : Nat) (s : List UInt8) (vprefix : List UInt8) (r : Bool) (h : F107 n s vprefix = some r) : PureC Try.prog 107 [(.str s), (.str vprefix)] (.bool r) [] := by
  refine PureC.mkS Try.func107 rfl rfl ?_
  intro w0 fz0 hfz
  replace h : ((F117 n s vprefix).bind fun y_2 => (some y_2)) = some r := h
  refine TS.seq ?_
  have hq : (True) ∧ (True) := ⟨trivial, trivial⟩
  refine TS.reg [] ?_ ?_
  · apply prop_of ?_ hq
    kernel_rfl
  refine XS.then ?_
  refine TS.seq ?_
  obtain ⟨y_2, hx1, h⟩ := bind_some' h
  have hq : (True) ∧ ((True) ∧ ((PureC Try.prog 117 [(.str s), (.str vprefix)] (.bool y_2) []) ∧ ((True) ∧ (True)))) := ⟨trivial, ⟨trivial, ⟨F117_ok n s vprefix y_2 hx1, ⟨trivial, trivial⟩⟩⟩⟩
  refine TS.reg [.none, .none, (.call (.bool y_2) [])] ?_ ?_
  · apply prop_of ?_ hq
    kernel_rfl
  refine XS.then ?_
  refine TS.ret ?_
  obtain rfl : y_2 = r := Option.some.inj h
  exact XS.fin [] ((True) ∧ (True)) (by kernel_rfl) ⟨trivial, trivial⟩

/-! plugtree/plugref.WordAt -/
def F77 (n : Nat) (s : List UInt8) (vat : Int) : Option Int := (bif inb (IntKind.wrap .i64 (vat + (1 : Int))) s.length then (bif inb vat s.length then (some (IntKind.wrap .i64 ((IntKind.wrap .i64 ((256 : Int) * (IntKind.wrap .i64 ((((s.getD ((IntKind.wrap .i64 (vat + (1 : Int))).toNat) 0).toNat : Nat) : Int))))) + (IntKind.wrap .i64 ((((s.getD vat.toNat 0).toNat : Nat) : Int)))))) else none) else none)
theorem F77_ok (n : Nat) (s : List UInt8) (vat : Int) (r : Int) (h : F77 n s vat = some r) : PureC Try.prog 77 [(.str s), (.int .i64 vat)] (.int .i64 r) [] := by
  refine PureC.mkS Try.func77 rfl rfl ?_
  intro w0 fz0 hfz
  replace h : (bif inb (IntKind.wrap .i64 (vat + (1 : Int))) s.length then (bif inb vat s.length then (some (IntKind.wrap .i64 ((IntKind.wrap .i64 ((256 : Int) * (IntKind.wrap .i64 ((((s.getD ((IntKind.wrap .i64 (vat + (1 : Int))).toNat) 0).toNat : Nat) : Int))))) + (IntKind.wrap .i64 ((((s.getD vat.toNat 0).toNat : Nat) : Int)))))) else none) else none) = some r := h
  refine TS.seq ?_
  have hq : (True) ∧ (True) := ⟨trivial, trivial⟩
  refine TS.reg [] ?_ ?_
  · apply prop_of ?_ hq
    kernel_rfl
  refine XS.then ?_
  refine TS.seq ?_
  obtain ⟨t1, h⟩ := test_some h
  obtain ⟨t2, h⟩ := test_some h
  have hq : ((True) ∧ ((True) ∧ ((True) ∧ ((inR (IntKind.wrap .i64 (vat + (1 : Int))) s.length) ∧ ((True) ∧ ((True) ∧ ((True) ∧ ((True) ∧ ((inR vat s.length) ∧ ((True) ∧ ((True) ∧ (True)))))))))))) ∧ ((True) ∧ (True)) := ⟨⟨trivial, ⟨trivial, ⟨trivial, ⟨inb_ok t1, ⟨trivial, ⟨trivial, ⟨trivial, ⟨trivial, ⟨inb_ok t2, ⟨trivial, ⟨trivial, trivial⟩⟩⟩⟩⟩⟩⟩⟩⟩⟩⟩, ⟨trivial, trivial⟩⟩
  refine TS.draw 11 [] [] (by kernel_rfl) ?_ ?_
  · apply prop_of ?_ hq
    kernel_rfl
  refine XS.then ?_
  refine TS.ret ?_
  obtain rfl : (IntKind.wrap .i64 ((IntKind.wrap .i64 ((256 : Int) * (IntKind.wrap .i64 ((((s.getD ((IntKind.wrap .i64 (vat + (1 : Int))).toNat) 0).toNat : Nat) : Int))))) + (IntKind.wrap .i64 ((((s.getD vat.toNat 0).toNat : Nat) : Int))))) = r := Option.some.inj h
  exact XS.fin [] ((True) ∧ (True)) (by kernel_rfl) ⟨trivial, trivial⟩

/-! plugtree/plugref.ReadAsk -/
def F56_l2 (n : Nat) (s : List UInt8) (k56_2 : Int → Option (Int × Int × Int × Int × Int)) : Int → Option (Int × Int × Int × Int × Int)
  | k => (bif (decide (k < (28 : Int))) then (bif subB (([128, 0, 2, 1, 2, 3, 0, 5, 128, 6, 0, 9, 128, 8, 163, 0, 35, 3, 35, 1, 33, 255, 161, 254, 33, 10, 33, 9] : List UInt8).length) (some k) (some (IntKind.wrap .i64 (k + (2 : Int)))) then ((F107 n s ((([128, 0, 2, 1, 2, 3, 0, 5, 128, 6, 0, 9, 128, 8, 163, 0, 35, 3, 35, 1, 33, 255, 161, 254, 33, 10, 33, 9] : List UInt8).take (IntKind.wrap .i64 (k + (2 : Int))).toNat).drop k.toNat)).bind fun y_6 => (bif y_6 then ((F77 n s (2 : Int)).bind fun y_7 => ((F77 n s (4 : Int)).bind fun y_8 => ((F77 n s (6 : Int)).bind fun y_9 => ((F30 n (IntKind.wrap .i64 ((IntKind.wrap .i64 (k.tdiv (2 : Int))) + (1 : Int))) y_7 y_8 y_9).bind fun y_10 => (bif (y_10.2 != (0 : Int)) then (some ((0 : Int), (0 : Int), (0 : Int), (0 : Int), (12 : Int))) else (some ((IntKind.wrap .i64 ((IntKind.wrap .i64 (k.tdiv (2 : Int))) + (1 : Int))), y_7, y_8, y_9, (0 : Int)))))))) else (k56_2 (IntKind.wrap .i64 (k + (2 : Int)))))) else none) else (some ((0 : Int), (0 : Int), (0 : Int), (0 : Int), (12 : Int))))
def F56 (n : Nat) (s : List UInt8) : Option (Int × Int × Int × Int × Int) := (bif (((s.length : Nat) : Int) != (8 : Int)) then (bif (decide (((s.length : Nat) : Int) < (8 : Int))) then (some ((0 : Int), (0 : Int), (0 : Int), (0 : Int), (3 : Int))) else (some ((0 : Int), (0 : Int), (0 : Int), (0 : Int), (4 : Int)))) else (loopF (F56_l2 n s) n (0 : Int)))
theorem F56_ok (n : Nat) (s : List UInt8) (r : Int × Int × Int × Int × Int) (h : F56 n s = some r) : PureC Try.prog 56 [(.str s)] (.tup (.cons (.st (.cons (.int .i64 r.1) (.cons (.int .i64 r.2.1) (.cons (.int .i64 r.2.2.1) (.int .i64 r.2.2.2.1))))) (.cons (.int .i64 r.2.2.2.2) .nil))) [] := by
  refine PureC.mkS Try.func56 rfl rfl ?_
  intro w0 fz0 hfz
  replace h : (bif (((s.length : Nat) : Int) != (8 : Int)) then (bif (decide (((s.length : Nat) : Int) < (8 : Int))) then (some ((0 : Int), (0 : Int), (0 : Int), (0 : Int), (3 : Int))) else (some ((0 : Int), (0 : Int), (0 : Int), (0 : Int), (4 : Int)))) else (loopF (F56_l2 n s) n (0 : Int))) = some r := h
  refine TS.seq ?_
  have hq : (True) ∧ ((True) ∧ (True)) := ⟨trivial, ⟨trivial, trivial⟩⟩
  refine TS.reg [] ?_ ?_
  · apply prop_of ?_ hq
    kernel_rfl
  refine XS.then ?_
  refine TS.seq ?_
  refine TS.seq ?_
  have hq : (True) ∧ ((True) ∧ ((True) ∧ (True))) := ⟨trivial, ⟨trivial, ⟨trivial, trivial⟩⟩⟩
  refine TS.reg [] ?_ ?_
  · apply prop_of ?_ hq
    kernel_rfl
  refine XS.then ?_
  rcases bif_some h with ⟨c1, h⟩ | ⟨c2, h⟩
  · refine TS.cond (((s.length : Nat) : Int) != (8 : Int)) ?_ (fun e => ?_) (fun e => by rw [c1] at e; cases e)
    · kernel_rfl
    refine TS.seq ?_
    refine TS.seq ?_
    have hq : (True) ∧ ((True) ∧ ((True) ∧ (True))) := ⟨trivial, ⟨trivial, ⟨trivial, trivial⟩⟩⟩
    refine TS.reg [] ?_ ?_
    · apply prop_of ?_ hq
      kernel_rfl
    refine XS.then ?_
    rcases bif_some h with ⟨c3, h⟩ | ⟨c4, h⟩
    · refine TS.cond (decide (((s.length : Nat) : Int) < (8 : Int))) ?_ (fun e => ?_) (fun e => by rw [c3] at e; cases e)
      · kernel_rfl
      refine TS.seq ?_
      have hq : (True) ∧ ((True) ∧ ((True) ∧ (True))) := ⟨trivial, ⟨trivial, ⟨trivial, trivial⟩⟩⟩
      refine TS.reg [] ?_ ?_
      · apply prop_of ?_ hq
        kernel_rfl
      refine XS.then ?_
      refine TS.ret ?_
      refine XS.passR ?_
      refine XS.passR ?_
      obtain rfl : ((0 : Int), (0 : Int), (0 : Int), (0 : Int), (3 : Int)) = r := Option.some.inj h
      exact XS.fin [] ((True) ∧ ((True) ∧ (True))) (by kernel_rfl) ⟨trivial, ⟨trivial, trivial⟩⟩
    · refine TS.cond (decide (((s.length : Nat) : Int) < (8 : Int))) ?_ (fun e => by rw [c4] at e; cases e) (fun e => ?_)
      · kernel_rfl
      refine TS.skip ?_
      refine XS.then ?_
      refine TS.seq ?_
      have hq : (True) ∧ ((True) ∧ ((True) ∧ (True))) := ⟨trivial, ⟨trivial, ⟨trivial, trivial⟩⟩⟩
      refine TS.reg [] ?_ ?_
      · apply prop_of ?_ hq
        kernel_rfl
      refine XS.then ?_
      refine TS.ret ?_
      refine XS.passR ?_
      obtain rfl : ((0 : Int), (0 : Int), (0 : Int), (0 : Int), (4 : Int)) = r := Option.some.inj h
      exact XS.fin [] ((True) ∧ ((True) ∧ (True))) (by kernel_rfl) ⟨trivial, ⟨trivial, trivial⟩⟩
  · refine TS.cond (((s.length : Nat) : Int) != (8 : Int)) ?_ (fun e => by rw [c2] at e; cases e) (fun e => ?_)
    · kernel_rfl
    refine TS.skip ?_
    refine XS.then ?_
    refine TS.seq ?_
    refine TS.seq ?_
    have hq : (True) ∧ (True) := ⟨trivial, trivial⟩
    refine TS.reg [] ?_ ?_
    · apply prop_of ?_ hq
      kernel_rfl
    refine XS.then ?_
    refine TS.block ?_
    refine TS.reLoop [0] (mkMask 45 [0, 2, 4]) (D := Int) (fun d => match d with | k => (mkTs 45 [(0, (.str s)), (2, (.ptr 0 [])), (4, (.int .i64 k))], [(.box 45 (.st (.cons (.int .i64 (0 : Int)) (.cons (.int .i64 (0 : Int)) (.cons (.int .i64 (0 : Int)) (.int .i64 (0 : Int)))))))])) (fun n' d => loopF (F56_l2 n s) n' d = some r) n (0 : Int) h ?_ (fun d => loopF_zero _ d r) ?_
    · kernel_rfl
    · rintro n2 k h
      replace h : (bif (decide (k < (28 : Int))) then (bif subB (([128, 0, 2, 1, 2, 3, 0, 5, 128, 6, 0, 9, 128, 8, 163, 0, 35, 3, 35, 1, 33, 255, 161, 254, 33, 10, 33, 9] : List UInt8).length) (some k) (some (IntKind.wrap .i64 (k + (2 : Int)))) then ((F107 n s ((([128, 0, 2, 1, 2, 3, 0, 5, 128, 6, 0, 9, 128, 8, 163, 0, 35, 3, 35, 1, 33, 255, 161, 254, 33, 10, 33, 9] : List UInt8).take (IntKind.wrap .i64 (k + (2 : Int))).toNat).drop k.toNat)).bind fun y_6 => (bif y_6 then ((F77 n s (2 : Int)).bind fun y_7 => ((F77 n s (4 : Int)).bind fun y_8 => ((F77 n s (6 : Int)).bind fun y_9 => ((F30 n (IntKind.wrap .i64 ((IntKind.wrap .i64 (k.tdiv (2 : Int))) + (1 : Int))) y_7 y_8 y_9).bind fun y_10 => (bif (y_10.2 != (0 : Int)) then (some ((0 : Int), (0 : Int), (0 : Int), (0 : Int), (12 : Int))) else (some ((IntKind.wrap .i64 ((IntKind.wrap .i64 (k.tdiv (2 : Int))) + (1 : Int))), y_7, y_8, y_9, (0 : Int)))))))) else ((loopF (F56_l2 n s) n2) (IntKind.wrap .i64 (k + (2 : Int)))))) else none) else (some ((0 : Int), (0 : Int), (0 : Int), (0 : Int), (12 : Int)))) = some r := h
      refine TS.seq ?_
      refine TS.seq ?_
      have hq : (True) ∧ ((True) ∧ (True)) := ⟨trivial, ⟨trivial, trivial⟩⟩
      refine TS.reg [] ?_ ?_
      · apply prop_of ?_ hq
        kernel_rfl
      refine XS.then ?_
      rcases bif_some h with ⟨c5, h⟩ | ⟨c6, h⟩
      · refine TS.cond (decide (k < (28 : Int))) ?_ (fun e => ?_) (fun e => by rw [c5] at e; cases e)
        · kernel_rfl
        refine TS.skip ?_
        refine XS.then ?_
        refine TS.seq ?_
        refine TS.block ?_
        refine TS.seq ?_
        obtain ⟨t7, h⟩ := test_some h
        obtain ⟨y_6, hx8, h⟩ := bind_some' h
        have hq : (True) ∧ ((True) ∧ ((True) ∧ ((True) ∧ ((subC ([128, 0, 2, 1, 2, 3, 0, 5, 128, 6, 0, 9, 128, 8, 163, 0, 35, 3, 35, 1, 33, 255, 161, 254, 33, 10, 33, 9] : List UInt8).length (some k) (some (IntKind.wrap .i64 (k + (2 : Int))))) ∧ ((PureC Try.prog 107 [(.str s), (.str ((([128, 0, 2, 1, 2, 3, 0, 5, 128, 6, 0, 9, 128, 8, 163, 0, 35, 3, 35, 1, 33, 255, 161, 254, 33, 10, 33, 9] : List UInt8).take (IntKind.wrap .i64 (k + (2 : Int))).toNat).drop k.toNat))] (.bool y_6) []) ∧ (True)))))) := ⟨trivial, ⟨trivial, ⟨trivial, ⟨trivial, ⟨subB_ok t7, ⟨F107_ok n s ((([128, 0, 2, 1, 2, 3, 0, 5, 128, 6, 0, 9, 128, 8, 163, 0, 35, 3, 35, 1, 33, 255, 161, 254, 33, 10, 33, 9] : List UInt8).take (IntKind.wrap .i64 (k + (2 : Int))).toNat).drop k.toNat) y_6 hx8, trivial⟩⟩⟩⟩⟩⟩
        refine TS.reg [.none, .none, .none, .none, .none, (.call (.bool y_6) [])] ?_ ?_
        · apply prop_of ?_ hq
          kernel_rfl
        refine XS.then ?_
        rcases bif_some h with ⟨c9, h⟩ | ⟨c10, h⟩
        · refine TS.cond y_6 ?_ (fun e => ?_) (fun e => by rw [c9] at e; cases e)
          · kernel_rfl
          refine TS.seq ?_
          obtain ⟨y_7, hx11, h⟩ := bind_some' h
          obtain ⟨y_8, hx12, h⟩ := bind_some' h
          obtain ⟨y_9, hx13, h⟩ := bind_some' h
          have hq : (True) ∧ (((2 : Int) ≠ 0) ∧ ((True) ∧ ((True) ∧ ((PureC Try.prog 77 [(.str s), (.int .i64 (2 : Int))] (.int .i64 y_7) []) ∧ ((True) ∧ ((PureC Try.prog 77 [(.str s), (.int .i64 (4 : Int))] (.int .i64 y_8) []) ∧ ((True) ∧ ((PureC Try.prog 77 [(.str s), (.int .i64 (6 : Int))] (.int .i64 y_9) []) ∧ (((True) ∧ ((True) ∧ ((True) ∧ ((True) ∧ (True))))) ∧ ((True) ∧ ((True) ∧ (True)))))))))))) := ⟨trivial, ⟨by decide, ⟨trivial, ⟨trivial, ⟨F77_ok n s (2 : Int) y_7 hx11, ⟨trivial, ⟨F77_ok n s (4 : Int) y_8 hx12, ⟨trivial, ⟨F77_ok n s (6 : Int) y_9 hx13, ⟨⟨trivial, ⟨trivial, ⟨trivial, ⟨trivial, trivial⟩⟩⟩⟩, ⟨trivial, ⟨trivial, trivial⟩⟩⟩⟩⟩⟩⟩⟩⟩⟩⟩⟩
          refine TS.reg [.none, .none, .none, .none, (.call (.int .i64 y_7) []), .none, (.call (.int .i64 y_8) []), .none, (.call (.int .i64 y_9) [])] ?_ ?_
          · apply prop_of ?_ hq
            kernel_rfl
          refine XS.then ?_
          refine TS.seq ?_
          refine TS.seq ?_
          obtain ⟨y_10, hx14, h⟩ := bind_some' h
          have hq : (True) ∧ ((PureC Try.prog 30 [(.st (.cons (.int .i64 (IntKind.wrap .i64 ((IntKind.wrap .i64 (k.tdiv (2 : Int))) + (1 : Int)))) (.cons (.int .i64 y_7) (.cons (.int .i64 y_8) (.int .i64 y_9)))))] (.tup (.cons (.str y_10.1) (.cons (.int .i64 y_10.2) .nil))) []) ∧ ((True) ∧ ((True) ∧ ((True) ∧ ((True) ∧ ((True) ∧ (True))))))) := ⟨trivial, ⟨F30_ok n (IntKind.wrap .i64 ((IntKind.wrap .i64 (k.tdiv (2 : Int))) + (1 : Int))) y_7 y_8 y_9 y_10 hx14, ⟨trivial, ⟨trivial, ⟨trivial, ⟨trivial, ⟨trivial, trivial⟩⟩⟩⟩⟩⟩⟩
          refine TS.reg [.none, (.call (.tup (.cons (.str y_10.1) (.cons (.int .i64 y_10.2) .nil))) [])] ?_ ?_
          · apply prop_of ?_ hq
            kernel_rfl
          refine XS.then ?_
          refine TS.seq ?_
          have hq : (True) ∧ ((True) ∧ (True)) := ⟨trivial, ⟨trivial, trivial⟩⟩
          refine TS.reg [] ?_ ?_
          · apply prop_of ?_ hq
            kernel_rfl
          refine XS.then ?_
          rcases bif_some h with ⟨c15, h⟩ | ⟨c16, h⟩
          · refine TS.cond (y_10.2 != (0 : Int)) ?_ (fun e => ?_) (fun e => by rw [c15] at e; cases e)
            · kernel_rfl
            refine TS.exit ?_
            refine XS.passE ?_
            refine XS.through (by decide) ?_
            refine XS.passE ?_
            refine XS.passE ?_
            refine XS.out ?_
            refine XS.then ?_
            refine TS.seq ?_
            have hq : (True) ∧ ((True) ∧ ((True) ∧ (True))) := ⟨trivial, ⟨trivial, ⟨trivial, trivial⟩⟩⟩
            refine TS.reg [] ?_ ?_
            · apply prop_of ?_ hq
              kernel_rfl
            refine XS.then ?_
            refine TS.ret ?_
            obtain rfl : ((0 : Int), (0 : Int), (0 : Int), (0 : Int), (12 : Int)) = r := Option.some.inj h
            exact XS.fin [] ((True) ∧ ((True) ∧ (True))) (by kernel_rfl) ⟨trivial, ⟨trivial, trivial⟩⟩
          · refine TS.cond (y_10.2 != (0 : Int)) ?_ (fun e => by rw [c16] at e; cases e) (fun e => ?_)
            · kernel_rfl
            refine TS.skip ?_
            refine XS.then ?_
            refine TS.seq ?_
            have hq : (True) ∧ ((True) ∧ ((True) ∧ (True))) := ⟨trivial, ⟨trivial, ⟨trivial, trivial⟩⟩⟩
            refine TS.reg [] ?_ ?_
            · apply prop_of ?_ hq
              kernel_rfl
            refine XS.then ?_
            refine TS.ret ?_
            refine XS.blockRet ?_
            refine XS.passR ?_
            refine XS.passR ?_
            refine XS.blockRet ?_
            refine XS.passR ?_
            obtain rfl : ((IntKind.wrap .i64 ((IntKind.wrap .i64 (k.tdiv (2 : Int))) + (1 : Int))), y_7, y_8, y_9, (0 : Int)) = r := Option.some.inj h
            exact XS.fin [] ((True) ∧ ((True) ∧ (True))) (by kernel_rfl) ⟨trivial, ⟨trivial, trivial⟩⟩
        · refine TS.cond y_6 ?_ (fun e => by rw [c10] at e; cases e) (fun e => ?_)
          · kernel_rfl
          refine TS.skip ?_
          refine XS.blockEnd ?_
          refine XS.then ?_
          have hq : (True) ∧ ((True) ∧ ((True) ∧ (True))) := ⟨trivial, ⟨trivial, ⟨trivial, trivial⟩⟩⟩
          refine TS.reg [] ?_ ?_
          · apply prop_of ?_ hq
            kernel_rfl
          refine XS.reAny [0] (mkMask 45 [0, 2, 4]) (IntKind.wrap .i64 (k + (2 : Int))) h ?_
          kernel_rfl
      · refine TS.cond (decide (k < (28 : Int))) ?_ (fun e => by rw [c6] at e; cases e) (fun e => ?_)
        · kernel_rfl
        refine TS.exit ?_
        refine XS.passE ?_
        refine XS.passE ?_
        refine XS.out ?_
        refine XS.then ?_
        refine TS.seq ?_
        have hq : (True) ∧ ((True) ∧ ((True) ∧ (True))) := ⟨trivial, ⟨trivial, ⟨trivial, trivial⟩⟩⟩
        refine TS.reg [] ?_ ?_
        · apply prop_of ?_ hq
          kernel_rfl
        refine XS.then ?_
        refine TS.ret ?_
        obtain rfl : ((0 : Int), (0 : Int), (0 : Int), (0 : Int), (12 : Int)) = r := Option.some.inj h
        exact XS.fin [] ((True) ∧ ((True) ∧ (True))) (by kernel_rfl) ⟨trivial, ⟨trivial, trivial⟩⟩

/-! plugtree/pluglaw.SetupReads -/
def F12 (n : Nat) (s : List UInt8) : Option Bool := ((F55 n s).bind fun y_2 => ((F56 n s).bind fun y_3 => (bif (Sh.beq (.st (.pair (.int .i64) (.pair (.int .i64) (.pair (.int .i64) (.int .i64))))) (y_2.1, (y_2.2.1, (y_2.2.2.1, y_2.2.2.2.1))) (y_3.1, (y_3.2.1, (y_3.2.2.1, y_3.2.2.2.1)))) then (some (y_2.2.2.2.2 == y_3.2.2.2.2)) else (some false))))
theorem F12_ok (n : Nat) (s : List UInt8) (r : Bool) (h : F12 n s = some r) : PureC Try.prog 12 [(.str s)] (.bool r) [] := by
  refine PureC.mkS Try.func12 rfl rfl ?_
  intro w0 fz0 hfz
  replace h : ((F55 n s).bind fun y_2 => ((F56 n s).bind fun y_3 => (bif (Sh.beq (.st (.pair (.int .i64) (.pair (.int .i64) (.pair (.int .i64) (.int .i64))))) (y_2.1, (y_2.2.1, (y_2.2.2.1, y_2.2.2.2.1))) (y_3.1, (y_3.2.1, (y_3.2.2.1, y_3.2.2.2.1)))) then (some (y_2.2.2.2.2 == y_3.2.2.2.2)) else (some false)))) = some r := h
  refine TS.seq ?_
  have hq : (True) ∧ (True) := ⟨trivial, trivial⟩
  refine TS.reg [] ?_ ?_
  · apply prop_of ?_ hq
    kernel_rfl
  refine XS.then ?_
  refine TS.seq ?_
  obtain ⟨y_2, hx1, h⟩ := bind_some' h
  have hq : (True) ∧ ((PureC Try.prog 55 [(.str s)] (.tup (.cons (.st (.cons (.int .i64 y_2.1) (.cons (.int .i64 y_2.2.1) (.cons (.int .i64 y_2.2.2.1) (.int .i64 y_2.2.2.2.1))))) (.cons (.int .i64 y_2.2.2.2.2) .nil))) []) ∧ ((True) ∧ ((True) ∧ ((True) ∧ ((True) ∧ ((True) ∧ ((True) ∧ (True)))))))) := ⟨trivial, ⟨F55_ok n s y_2 hx1, ⟨trivial, ⟨trivial, ⟨trivial, ⟨trivial, ⟨trivial, ⟨trivial, trivial⟩⟩⟩⟩⟩⟩⟩⟩
  refine TS.reg [.none, (.call (.tup (.cons (.st (.cons (.int .i64 y_2.1) (.cons (.int .i64 y_2.2.1) (.cons (.int .i64 y_2.2.2.1) (.int .i64 y_2.2.2.2.1))))) (.cons (.int .i64 y_2.2.2.2.2) .nil))) [])] ?_ ?_
  · apply prop_of ?_ hq
    kernel_rfl
  refine XS.then ?_
  refine TS.seq ?_
  obtain ⟨y_3, hx2, h⟩ := bind_some' h
  have hq : (True) ∧ ((PureC Try.prog 56 [(.str s)] (.tup (.cons (.st (.cons (.int .i64 y_3.1) (.cons (.int .i64 y_3.2.1) (.cons (.int .i64 y_3.2.2.1) (.int .i64 y_3.2.2.2.1))))) (.cons (.int .i64 y_3.2.2.2.2) .nil))) []) ∧ ((True) ∧ ((True) ∧ ((True) ∧ ((True) ∧ ((True) ∧ ((True) ∧ (True)))))))) := ⟨trivial, ⟨F56_ok n s y_3 hx2, ⟨trivial, ⟨trivial, ⟨trivial, ⟨trivial, ⟨trivial, ⟨trivial, trivial⟩⟩⟩⟩⟩⟩⟩⟩
  refine TS.reg [.none, (.call (.tup (.cons (.st (.cons (.int .i64 y_3.1) (.cons (.int .i64 y_3.2.1) (.cons (.int .i64 y_3.2.2.1) (.int .i64 y_3.2.2.2.1))))) (.cons (.int .i64 y_3.2.2.2.2) .nil))) [])] ?_ ?_
  · apply prop_of ?_ hq
    kernel_rfl
  refine XS.then ?_
  refine TS.seq ?_
  rcases bif_some h with ⟨c3, h⟩ | ⟨c4, h⟩
  · have hq : (True) ∧ ((True) ∧ ((True) ∧ (((True) ∧ (Sh.beq (.st (.pair (.int .i64) (.pair (.int .i64) (.pair (.int .i64) (.int .i64))))) (y_2.1, (y_2.2.1, (y_2.2.2.1, y_2.2.2.2.1))) (y_3.1, (y_3.2.1, (y_3.2.2.1, y_3.2.2.2.1)))) = true) ∧ ((True) ∧ ((True) ∧ ((True) ∧ ((True) ∧ ((True) ∧ (True))))))))) := ⟨trivial, ⟨trivial, ⟨trivial, ⟨⟨trivial, c3⟩, ⟨trivial, ⟨trivial, ⟨trivial, ⟨trivial, ⟨trivial, trivial⟩⟩⟩⟩⟩⟩⟩⟩⟩
    refine TS.reg [.none, .none, .none, .dec true] ?_ ?_
    · apply prop_of ?_ hq
      kernel_rfl
    refine XS.then ?_
    refine TS.ret ?_
    obtain rfl : (y_2.2.2.2.2 == y_3.2.2.2.2) = r := Option.some.inj h
    exact XS.fin [] ((True) ∧ (True)) (by kernel_rfl) ⟨trivial, trivial⟩
  · have hq : (True) ∧ ((True) ∧ ((True) ∧ (((True) ∧ (Sh.beq (.st (.pair (.int .i64) (.pair (.int .i64) (.pair (.int .i64) (.int .i64))))) (y_2.1, (y_2.2.1, (y_2.2.2.1, y_2.2.2.2.1))) (y_3.1, (y_3.2.1, (y_3.2.2.1, y_3.2.2.2.1)))) = false) ∧ ((True) ∧ ((True) ∧ (True)))))) := ⟨trivial, ⟨trivial, ⟨trivial, ⟨⟨trivial, c4⟩, ⟨trivial, ⟨trivial, trivial⟩⟩⟩⟩⟩⟩
    refine TS.reg [.none, .none, .none, .dec false] ?_ ?_
    · apply prop_of ?_ hq
      kernel_rfl
    refine XS.then ?_
    refine TS.ret ?_
    obtain rfl : false = r := Option.some.inj h
    exact XS.fin [] ((True) ∧ (True)) (by kernel_rfl) ⟨trivial, trivial⟩
end Go.Proofs.Ytgcdohclbkmmdaa
