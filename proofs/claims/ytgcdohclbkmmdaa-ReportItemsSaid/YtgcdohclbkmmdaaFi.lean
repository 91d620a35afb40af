/- Functions of the program, as functions of values. -/
import Derived.Test.YtgcdohclbkmmdaaAm24
import Derived.Test.YtgcdohclbkmmdaaChecked
namespace Go.Proofs.Ytgcdohclbkmmdaa
open Go Go.RowKit
set_option linter.unusedVariables false
set_option maxRecDepth 100000

/-! plugtree/report.Items -/
def F41_l14 (n : Nat) (k41_12 : ((List UInt8) × (List (Int × Int))) → Option (Int × (List (Int × Int)))) (s_2 : List UInt8) (m0 : List (Int × Int)) (vn : Int) (k41_14 : (Int × Int) → Option (Int × (List (Int × Int)))) : (Int × Int) → Option (Int × (List (Int × Int)))
  | (v, i) => (bif (decide (i > (0 : Int))) then (bif inb i s_2.length then (k41_14 ((bitsI .or .u64 (shlI .u64 v (8 : Int)) (IntKind.wrap .u64 ((((s_2.getD i.toNat 0).toNat : Nat) : Int)))), (IntKind.wrap .i64 (i - (1 : Int))))) else none) else (bif (decide (0 ≤ (IntKind.wrap .u64 ((IntKind.wrap .i64 ((64 : Int) - (IntKind.wrap .i64 ((8 : Int) * vn)))))))) then (bif (decide (m0.length + [((IntKind.wrap .i64 ((shrI .u8 (((s_2.getD 0 0).toNat : Nat) : Int) (2 : Int)))), (shrI .i64 (IntKind.wrap .i64 ((shlI .u64 v (IntKind.wrap .u64 ((IntKind.wrap .i64 ((64 : Int) - (IntKind.wrap .i64 ((8 : Int) * vn))))))))) (IntKind.wrap .u64 ((IntKind.wrap .i64 ((64 : Int) - (IntKind.wrap .i64 ((8 : Int) * vn))))))))].length ≤ 17179869184)) then (bif subB s_2.length (some (IntKind.wrap .i64 (vn + (1 : Int)))) none then (k41_12 ((s_2.drop (IntKind.wrap .i64 (vn + (1 : Int))).toNat), (m0 ++ [((IntKind.wrap .i64 ((shrI .u8 (((s_2.getD 0 0).toNat : Nat) : Int) (2 : Int)))), (shrI .i64 (IntKind.wrap .i64 ((shlI .u64 v (IntKind.wrap .u64 ((IntKind.wrap .i64 ((64 : Int) - (IntKind.wrap .i64 ((8 : Int) * vn))))))))) (IntKind.wrap .u64 ((IntKind.wrap .i64 ((64 : Int) - (IntKind.wrap .i64 ((8 : Int) * vn))))))))]))) else none) else none) else none))
def F41_j13 (n : Nat) (k41_12 : ((List UInt8) × (List (Int × Int))) → Option (Int × (List (Int × Int)))) (s_2 : List UInt8) (m0 : List (Int × Int)) : Int → Option (Int × (List (Int × Int)))
  | vn => (bif (decide (((s_2.length : Nat) : Int) < (IntKind.wrap .i64 (vn + (1 : Int))))) then (some ((3 : Int), ([] : List (Int × Int)))) else (bif (((m0.length : Nat) : Int) == (200 : Int)) then (some ((2 : Int), ([] : List (Int × Int)))) else (loopF (F41_l14 n k41_12 s_2 m0 vn) n ((0 : Int), vn))))
def F41_l12 (n : Nat) (k41_12 : ((List UInt8) × (List (Int × Int))) → Option (Int × (List (Int × Int)))) : ((List UInt8) × (List (Int × Int))) → Option (Int × (List (Int × Int)))
  | (s_2, m0) => (bif (!(s_2 == ([] : List UInt8))) then (bif inb (0 : Int) s_2.length then (bif ((IntKind.wrap .i64 ((bitsI .and .u8 (((s_2.getD 0 0).toNat : Nat) : Int) (3 : Int)))) == (3 : Int)) then (F41_j13 n k41_12 s_2 m0 (4 : Int)) else (F41_j13 n k41_12 s_2 m0 (IntKind.wrap .i64 ((bitsI .and .u8 (((s_2.getD 0 0).toNat : Nat) : Int) (3 : Int)))))) else none) else (some ((0 : Int), m0)))
def F41 (n : Nat) (s : List UInt8) : Option (Int × (List (Int × Int))) := (bif (decide (((s.length : Nat) : Int) > (512 : Int))) then (some ((2 : Int), ([] : List (Int × Int)))) else (loopF (F41_l12 n) n (s, ([] : List (Int × Int)))))
theorem F41_ok (n : Nat) (s : List UInt8) (r : Int × (List (Int × Int))) (h : F41 n s = some r) : PureC Try.prog 41 [(.str s)] (.tup (.cons (.row 0) (.cons (.int .i64 r.1) .nil))) [(.row 64 (.st (.pair (.int .i64) (.int .i64))) r.2)] := by
  refine PureC.mkS Try.func41 rfl rfl ?_
  intro w0 fz0 hfz
  replace h : (bif (decide (((s.length : Nat) : Int) > (512 : Int))) then (some ((2 : Int), ([] : List (Int × Int)))) else (loopF (F41_l12 n) n (s, ([] : List (Int × Int))))) = some r := h
  refine TS.seq ?_
  have hq : (True) ∧ ((True) ∧ (True)) := ⟨trivial, ⟨trivial, trivial⟩⟩
  refine TS.reg [] ?_ ?_
  · apply prop_of ?_ hq
    kernel_rfl
  refine XS.then ?_
  refine TS.seq ?_
  refine TS.seq ?_
  have hq : (True) ∧ ((True) ∧ ((True) ∧ (True))) := ⟨trivial, ⟨trivial, ⟨trivial, trivial⟩⟩⟩
  refine TS.reg [] ?_ ?_
  · apply prop_of ?_ hq
    kernel_rfl
  refine XS.then ?_
  rcases bif_some h with ⟨c1, h⟩ | ⟨c2, h⟩
  · refine TS.cond (decide (((s.length : Nat) : Int) > (512 : Int))) ?_ (fun e => ?_) (fun e => by rw [c1] at e; cases e)
    · kernel_rfl
    refine TS.seq ?_
    have hq : (True) ∧ ((True) ∧ (True)) := ⟨trivial, ⟨trivial, trivial⟩⟩
    refine TS.reg [] ?_ ?_
    · apply prop_of ?_ hq
      kernel_rfl
    refine XS.then ?_
    refine TS.ret ?_
    refine XS.passR ?_
    obtain rfl : ((2 : Int), ([] : List (Int × Int))) = r := Option.some.inj h
    refine XS.wk (.row false 2 [] 64 (.st (.pair (.int .i64) (.int .i64)))) ?_
    exact XS.fin [0] ((True) ∧ ((True) ∧ (True))) (by kernel_rfl) ⟨trivial, ⟨trivial, trivial⟩⟩
  · refine TS.cond (decide (((s.length : Nat) : Int) > (512 : Int))) ?_ (fun e => by rw [c2] at e; cases e) (fun e => ?_)
    · kernel_rfl
    refine TS.skip ?_
    refine XS.then ?_
    refine TS.seq ?_
    have hq : (True) ∧ (True) := ⟨trivial, trivial⟩
    refine TS.reg [] ?_ ?_
    · apply prop_of ?_ hq
      kernel_rfl
    refine XS.then ?_
    refine TS.seq ?_
    refine TS.block ?_
    refine TS.wk (.row false 4 [] 64 (.st (.pair (.int .i64) (.int .i64)))) ?_
    refine TS.reLoop [0] (mkMask 63 [0, 4]) (D := (List UInt8) × (List (Int × Int))) (fun d => match d with | (s_2, m0) => (mkTs 63 [(0, (.str s_2)), (4, (.row 0))], [(.row 64 (.st (.pair (.int .i64) (.int .i64))) m0)])) (fun n' d => loopF (F41_l12 n) n' d = some r) n (s, ([] : List (Int × Int))) h ?_ (fun d => loopF_zero _ d r) ?_
    · kernel_rfl
    · rintro n12 ⟨s_2, m0⟩ h
      replace h : (bif (!(s_2 == ([] : List UInt8))) then (bif inb (0 : Int) s_2.length then (bif ((IntKind.wrap .i64 ((bitsI .and .u8 (((s_2.getD 0 0).toNat : Nat) : Int) (3 : Int)))) == (3 : Int)) then (F41_j13 n (loopF (F41_l12 n) n12) s_2 m0 (4 : Int)) else (F41_j13 n (loopF (F41_l12 n) n12) s_2 m0 (IntKind.wrap .i64 ((bitsI .and .u8 (((s_2.getD 0 0).toNat : Nat) : Int) (3 : Int)))))) else none) else (some ((0 : Int), m0))) = some r := h
      refine TS.seq ?_
      refine TS.seq ?_
      have hq : (True) ∧ ((True) ∧ (True)) := ⟨trivial, ⟨trivial, trivial⟩⟩
      refine TS.reg [] ?_ ?_
      · apply prop_of ?_ hq
        kernel_rfl
      refine XS.then ?_
      rcases bif_some h with ⟨c3, h⟩ | ⟨c4, h⟩
      · refine TS.cond (!(s_2 == ([] : List UInt8))) ?_ (fun e => ?_) (fun e => by rw [c3] at e; cases e)
        · kernel_rfl
        refine TS.skip ?_
        refine XS.then ?_
        refine TS.block ?_
        refine TS.seq ?_
        obtain ⟨t5, h⟩ := test_some h
        have hq : (True) ∧ ((inR (0 : Int) s_2.length) ∧ ((True) ∧ ((True) ∧ ((True) ∧ (True))))) := ⟨trivial, ⟨inb_ok t5, ⟨trivial, ⟨trivial, ⟨trivial, trivial⟩⟩⟩⟩⟩
        refine TS.reg [] ?_ ?_
        · apply prop_of ?_ hq
          kernel_rfl
        refine XS.then ?_
        refine TS.seq ?_
        refine TS.seq ?_
        have hq : (True) ∧ ((True) ∧ (True)) := ⟨trivial, ⟨trivial, trivial⟩⟩
        refine TS.reg [] ?_ ?_
        · apply prop_of ?_ hq
          kernel_rfl
        refine XS.then ?_
        refine TS.cut (D := Int) (fun d => match d with | vn => (mkTs 63 [(0, (.str s_2)), (4, (.row 0)), (5, (.int .i64 vn))], [(.row 64 (.st (.pair (.int .i64) (.int .i64))) m0)])) (fun d => F41_j13 n (loopF (F41_l12 n) n12) s_2 m0 d = some r) ?_ ?_
        · rintro vn h
          replace h : (bif (decide (((s_2.length : Nat) : Int) < (IntKind.wrap .i64 (vn + (1 : Int))))) then (some ((3 : Int), ([] : List (Int × Int)))) else (bif (((m0.length : Nat) : Int) == (200 : Int)) then (some ((2 : Int), ([] : List (Int × Int)))) else (loopF (F41_l14 n (loopF (F41_l12 n) n12) s_2 m0 vn) n ((0 : Int), vn)))) = some r := h
          refine XS.then ?_
          refine TS.seq ?_
          refine TS.seq ?_
          have hq : (True) ∧ ((True) ∧ ((True) ∧ ((True) ∧ ((True) ∧ (True))))) := ⟨trivial, ⟨trivial, ⟨trivial, ⟨trivial, ⟨trivial, trivial⟩⟩⟩⟩⟩
          refine TS.reg [] ?_ ?_
          · apply prop_of ?_ hq
            kernel_rfl
          refine XS.then ?_
          rcases bif_some h with ⟨c6, h⟩ | ⟨c7, h⟩
          · refine TS.cond (decide (((s_2.length : Nat) : Int) < (IntKind.wrap .i64 (vn + (1 : Int))))) ?_ (fun e => ?_) (fun e => by rw [c6] at e; cases e)
            · kernel_rfl
            refine TS.seq ?_
            have hq : (True) ∧ ((True) ∧ (True)) := ⟨trivial, ⟨trivial, trivial⟩⟩
            refine TS.reg [] ?_ ?_
            · apply prop_of ?_ hq
              kernel_rfl
            refine XS.then ?_
            refine TS.ret ?_
            refine XS.passR ?_
            refine XS.blockRet ?_
            refine XS.passR ?_
            refine XS.blockRet ?_
            refine XS.passR ?_
            obtain rfl : ((3 : Int), ([] : List (Int × Int))) = r := Option.some.inj h
            refine XS.wk (.row false 2 [] 64 (.st (.pair (.int .i64) (.int .i64)))) ?_
            exact XS.fin [1] ((True) ∧ ((True) ∧ (True))) (by kernel_rfl) ⟨trivial, ⟨trivial, trivial⟩⟩
          · refine TS.cond (decide (((s_2.length : Nat) : Int) < (IntKind.wrap .i64 (vn + (1 : Int))))) ?_ (fun e => by rw [c7] at e; cases e) (fun e => ?_)
            · kernel_rfl
            refine TS.skip ?_
            refine XS.then ?_
            refine TS.seq ?_
            refine TS.seq ?_
            have hq : (True) ∧ ((True) ∧ ((True) ∧ (True))) := ⟨trivial, ⟨trivial, ⟨trivial, trivial⟩⟩⟩
            refine TS.reg [] ?_ ?_
            · apply prop_of ?_ hq
              kernel_rfl
            refine XS.then ?_
            rcases bif_some h with ⟨c8, h⟩ | ⟨c9, h⟩
            · refine TS.cond (((m0.length : Nat) : Int) == (200 : Int)) ?_ (fun e => ?_) (fun e => by rw [c8] at e; cases e)
              · kernel_rfl
              refine TS.seq ?_
              have hq : (True) ∧ ((True) ∧ (True)) := ⟨trivial, ⟨trivial, trivial⟩⟩
              refine TS.reg [] ?_ ?_
              · apply prop_of ?_ hq
                kernel_rfl
              refine XS.then ?_
              refine TS.ret ?_
              refine XS.passR ?_
              refine XS.blockRet ?_
              refine XS.passR ?_
              refine XS.blockRet ?_
              refine XS.passR ?_
              obtain rfl : ((2 : Int), ([] : List (Int × Int))) = r := Option.some.inj h
              refine XS.wk (.row false 2 [] 64 (.st (.pair (.int .i64) (.int .i64)))) ?_
              exact XS.fin [1] ((True) ∧ ((True) ∧ (True))) (by kernel_rfl) ⟨trivial, ⟨trivial, trivial⟩⟩
            · refine TS.cond (((m0.length : Nat) : Int) == (200 : Int)) ?_ (fun e => by rw [c9] at e; cases e) (fun e => ?_)
              · kernel_rfl
              refine TS.skip ?_
              refine XS.then ?_
              refine TS.seq ?_
              have hq : (True) ∧ (True) := ⟨trivial, trivial⟩
              refine TS.reg [] ?_ ?_
              · apply prop_of ?_ hq
                kernel_rfl
              refine XS.then ?_
              refine TS.seq ?_
              refine TS.seq ?_
              have hq : (True) ∧ ((True) ∧ (True)) := ⟨trivial, ⟨trivial, trivial⟩⟩
              refine TS.reg [] ?_ ?_
              · apply prop_of ?_ hq
                kernel_rfl
              refine XS.then ?_
              refine TS.block ?_
              refine TS.reLoop [0] (mkMask 63 [0, 4, 5, 6, 7]) (D := Int × Int) (fun d => match d with | (v, i) => (mkTs 63 [(0, (.str s_2)), (4, (.row 0)), (5, (.int .i64 vn)), (6, (.int .u64 v)), (7, (.int .i64 i))], [(.row 64 (.st (.pair (.int .i64) (.int .i64))) m0)])) (fun n' d => loopF (F41_l14 n (loopF (F41_l12 n) n12) s_2 m0 vn) n' d = some r) n ((0 : Int), vn) h ?_ (fun d => loopF_zero _ d r) ?_
              · kernel_rfl
              · rintro n14 ⟨v, i⟩ h
                replace h : (bif (decide (i > (0 : Int))) then (bif inb i s_2.length then ((loopF (F41_l14 n (loopF (F41_l12 n) n12) s_2 m0 vn) n14) ((bitsI .or .u64 (shlI .u64 v (8 : Int)) (IntKind.wrap .u64 ((((s_2.getD i.toNat 0).toNat : Nat) : Int)))), (IntKind.wrap .i64 (i - (1 : Int))))) else none) else (bif (decide (0 ≤ (IntKind.wrap .u64 ((IntKind.wrap .i64 ((64 : Int) - (IntKind.wrap .i64 ((8 : Int) * vn)))))))) then (bif (decide (m0.length + [((IntKind.wrap .i64 ((shrI .u8 (((s_2.getD 0 0).toNat : Nat) : Int) (2 : Int)))), (shrI .i64 (IntKind.wrap .i64 ((shlI .u64 v (IntKind.wrap .u64 ((IntKind.wrap .i64 ((64 : Int) - (IntKind.wrap .i64 ((8 : Int) * vn))))))))) (IntKind.wrap .u64 ((IntKind.wrap .i64 ((64 : Int) - (IntKind.wrap .i64 ((8 : Int) * vn))))))))].length ≤ 17179869184)) then (bif subB s_2.length (some (IntKind.wrap .i64 (vn + (1 : Int)))) none then ((loopF (F41_l12 n) n12) ((s_2.drop (IntKind.wrap .i64 (vn + (1 : Int))).toNat), (m0 ++ [((IntKind.wrap .i64 ((shrI .u8 (((s_2.getD 0 0).toNat : Nat) : Int) (2 : Int)))), (shrI .i64 (IntKind.wrap .i64 ((shlI .u64 v (IntKind.wrap .u64 ((IntKind.wrap .i64 ((64 : Int) - (IntKind.wrap .i64 ((8 : Int) * vn))))))))) (IntKind.wrap .u64 ((IntKind.wrap .i64 ((64 : Int) - (IntKind.wrap .i64 ((8 : Int) * vn))))))))]))) else none) else none) else none)) = some r := h
                refine TS.seq ?_
                refine TS.seq ?_
                have hq : (True) ∧ ((True) ∧ (True)) := ⟨trivial, ⟨trivial, trivial⟩⟩
                refine TS.reg [] ?_ ?_
                · apply prop_of ?_ hq
                  kernel_rfl
                refine XS.then ?_
                rcases bif_some h with ⟨c10, h⟩ | ⟨c11, h⟩
                · refine TS.cond (decide (i > (0 : Int))) ?_ (fun e => ?_) (fun e => by rw [c10] at e; cases e)
                  · kernel_rfl
                  refine TS.skip ?_
                  refine XS.then ?_
                  refine TS.seq ?_
                  refine TS.block ?_
                  obtain ⟨t12, h⟩ := test_some h
                  have hq : (True) ∧ ((0 ≤ (8 : Int)) ∧ ((True) ∧ ((True) ∧ ((inR i s_2.length) ∧ ((True) ∧ ((True) ∧ ((True) ∧ (True)))))))) := ⟨trivial, ⟨by decide, ⟨trivial, ⟨trivial, ⟨inb_ok t12, ⟨trivial, ⟨trivial, ⟨trivial, trivial⟩⟩⟩⟩⟩⟩⟩⟩
                  refine TS.reg [] ?_ ?_
                  · apply prop_of ?_ hq
                    kernel_rfl
                  refine XS.blockEnd ?_
                  refine XS.then ?_
                  have hq : (True) ∧ ((True) ∧ ((True) ∧ (True))) := ⟨trivial, ⟨trivial, ⟨trivial, trivial⟩⟩⟩
                  refine TS.reg [] ?_ ?_
                  · apply prop_of ?_ hq
                    kernel_rfl
                  refine XS.reAny [0] (mkMask 63 [0, 4, 5, 6, 7]) ((bitsI .or .u64 (shlI .u64 v (8 : Int)) (IntKind.wrap .u64 ((((s_2.getD i.toNat 0).toNat : Nat) : Int)))), (IntKind.wrap .i64 (i - (1 : Int)))) h ?_
                  kernel_rfl
                · refine TS.cond (decide (i > (0 : Int))) ?_ (fun e => by rw [c11] at e; cases e) (fun e => ?_)
                  · kernel_rfl
                  refine TS.exit ?_
                  refine XS.passE ?_
                  refine XS.passE ?_
                  refine XS.out ?_
                  refine XS.then ?_
                  refine TS.seq ?_
                  have hq : (True) ∧ ((True) ∧ ((True) ∧ ((True) ∧ ((True) ∧ (True))))) := ⟨trivial, ⟨trivial, ⟨trivial, ⟨trivial, ⟨trivial, trivial⟩⟩⟩⟩⟩
                  refine TS.reg [] ?_ ?_
                  · apply prop_of ?_ hq
                    kernel_rfl
                  refine XS.then ?_
                  refine TS.seq ?_
                  obtain ⟨t13, h⟩ := test_some h
                  obtain ⟨t14, h⟩ := test_some h
                  have hq : (True) ∧ ((True) ∧ ((inR (0 : Int) s_2.length) ∧ ((0 ≤ (2 : Int)) ∧ ((True) ∧ ((True) ∧ ((True) ∧ ((0 ≤ (IntKind.wrap .u64 ((IntKind.wrap .i64 ((64 : Int) - (IntKind.wrap .i64 ((8 : Int) * vn))))))) ∧ ((True) ∧ ((True) ∧ ((0 ≤ (IntKind.wrap .u64 ((IntKind.wrap .i64 ((64 : Int) - (IntKind.wrap .i64 ((8 : Int) * vn))))))) ∧ (((True) ∧ ((True) ∧ (True))) ∧ (((0 < 1 ∧ True) ∧ (True)) ∧ ((m0.length + [((IntKind.wrap .i64 ((shrI .u8 (((s_2.getD 0 0).toNat : Nat) : Int) (2 : Int)))), (shrI .i64 (IntKind.wrap .i64 ((shlI .u64 v (IntKind.wrap .u64 ((IntKind.wrap .i64 ((64 : Int) - (IntKind.wrap .i64 ((8 : Int) * vn))))))))) (IntKind.wrap .u64 ((IntKind.wrap .i64 ((64 : Int) - (IntKind.wrap .i64 ((8 : Int) * vn))))))))].length ≤ 17179869184) ∧ ((True) ∧ (True))))))))))))))) := ⟨trivial, ⟨trivial, ⟨inb_ok t5, ⟨by decide, ⟨trivial, ⟨trivial, ⟨trivial, ⟨of_decide_eq_true t13, ⟨trivial, ⟨trivial, ⟨of_decide_eq_true t13, ⟨⟨trivial, ⟨trivial, trivial⟩⟩, ⟨⟨⟨by decide, trivial⟩, trivial⟩, ⟨of_decide_eq_true t14, ⟨trivial, trivial⟩⟩⟩⟩⟩⟩⟩⟩⟩⟩⟩⟩⟩⟩⟩
                  refine TS.reg [] ?_ ?_
                  · apply prop_of ?_ hq
                    kernel_rfl
                  refine XS.then ?_
                  obtain ⟨t15, h⟩ := test_some h
                  have hq : (True) ∧ ((True) ∧ ((True) ∧ ((subC s_2.length (some (IntKind.wrap .i64 (vn + (1 : Int)))) none) ∧ ((True) ∧ (True))))) := ⟨trivial, ⟨trivial, ⟨trivial, ⟨subB_ok t15, ⟨trivial, trivial⟩⟩⟩⟩⟩
                  refine TS.reg [] ?_ ?_
                  · apply prop_of ?_ hq
                    kernel_rfl
                  refine XS.blockEnd ?_
                  refine XS.reAny [2] (mkMask 63 [0, 4]) ((s_2.drop (IntKind.wrap .i64 (vn + (1 : Int))).toNat), (m0 ++ [((IntKind.wrap .i64 ((shrI .u8 (((s_2.getD 0 0).toNat : Nat) : Int) (2 : Int)))), (shrI .i64 (IntKind.wrap .i64 ((shlI .u64 v (IntKind.wrap .u64 ((IntKind.wrap .i64 ((64 : Int) - (IntKind.wrap .i64 ((8 : Int) * vn))))))))) (IntKind.wrap .u64 ((IntKind.wrap .i64 ((64 : Int) - (IntKind.wrap .i64 ((8 : Int) * vn))))))))])) h ?_
                  kernel_rfl
        · rcases bif_some h with ⟨c16, h⟩ | ⟨c17, h⟩
          · refine TS.cond ((IntKind.wrap .i64 ((bitsI .and .u8 (((s_2.getD 0 0).toNat : Nat) : Int) (3 : Int)))) == (3 : Int)) ?_ (fun e => ?_) (fun e => by rw [c16] at e; cases e)
            · kernel_rfl
            have hq : (True) ∧ (True) := ⟨trivial, trivial⟩
            refine TS.reg [] ?_ ?_
            · apply prop_of ?_ hq
              kernel_rfl
            refine XS.reAny [0] (mkMask 63 [0, 4, 5]) (4 : Int) h ?_
            kernel_rfl
          · refine TS.cond ((IntKind.wrap .i64 ((bitsI .and .u8 (((s_2.getD 0 0).toNat : Nat) : Int) (3 : Int)))) == (3 : Int)) ?_ (fun e => by rw [c17] at e; cases e) (fun e => ?_)
            · kernel_rfl
            refine TS.skip ?_
            refine XS.reAny [0] (mkMask 63 [0, 4, 5]) (IntKind.wrap .i64 ((bitsI .and .u8 (((s_2.getD 0 0).toNat : Nat) : Int) (3 : Int)))) h ?_
            kernel_rfl
      · refine TS.cond (!(s_2 == ([] : List UInt8))) ?_ (fun e => by rw [c4] at e; cases e) (fun e => ?_)
        · kernel_rfl
        refine TS.exit ?_
        refine XS.passE ?_
        refine XS.passE ?_
        refine XS.out ?_
        refine XS.then ?_
        refine TS.seq ?_
        have hq : (True) ∧ ((True) ∧ ((True) ∧ (True))) := ⟨trivial, ⟨trivial, ⟨trivial, trivial⟩⟩⟩
        refine TS.reg [] ?_ ?_
        · apply prop_of ?_ hq
          kernel_rfl
        refine XS.then ?_
        refine TS.ret ?_
        obtain rfl : ((0 : Int), m0) = r := Option.some.inj h
        exact XS.fin [0] ((True) ∧ ((True) ∧ (True))) (by kernel_rfl) ⟨trivial, ⟨trivial, trivial⟩⟩

/-! plugtree/plugref.itemLong -/
def F92 (n : Nat) (first : Int) : Option Int := (bif inb (first.tmod (4 : Int)) ([(0 : Int), (1 : Int), (2 : Int), (4 : Int)].length) then (some ([(0 : Int), (1 : Int), (2 : Int), (4 : Int)].getD ((first.tmod (4 : Int)).toNat) (0 : Int))) else none)
theorem F92_ok (n : Nat) (first : Int) (r : Int) (h : F92 n first = some r) : PureC Try.prog 92 [(.int .u8 first)] (.int .i64 r) [] := by
  refine PureC.mkS Try.func92 rfl rfl ?_
  intro w0 fz0 hfz
  replace h : (bif inb (first.tmod (4 : Int)) ([(0 : Int), (1 : Int), (2 : Int), (4 : Int)].length) then (some ([(0 : Int), (1 : Int), (2 : Int), (4 : Int)].getD ((first.tmod (4 : Int)).toNat) (0 : Int))) else none) = some r := h
  refine TS.seq ?_
  have hq : (True) ∧ (True) := ⟨trivial, trivial⟩
  refine TS.reg [] ?_ ?_
  · apply prop_of ?_ hq
    kernel_rfl
  refine XS.then ?_
  refine TS.seq ?_
  obtain ⟨t1, h⟩ := test_some h
  have hq : ((0 < 4 ∧ True) ∧ ((1 < 4 ∧ True) ∧ ((2 < 4 ∧ True) ∧ ((3 < 4 ∧ True) ∧ (True))))) ∧ ((True) ∧ (((4 : Int) ≠ 0) ∧ ((inR (first.tmod (4 : Int)) ([(0 : Int), (1 : Int), (2 : Int), (4 : Int)].length)) ∧ ((((first.tmod (4 : Int)).toNat) < [(0 : Int), (1 : Int), (2 : Int), (4 : Int)].length ∧ (True)) ∧ ((True) ∧ (True)))))) := ⟨⟨⟨by decide, trivial⟩, ⟨⟨by decide, trivial⟩, ⟨⟨by decide, trivial⟩, ⟨⟨by decide, trivial⟩, trivial⟩⟩⟩⟩, ⟨trivial, ⟨by decide, ⟨inb_ok t1, ⟨⟨inR_lt (inb_ok t1), trivial⟩, ⟨trivial, trivial⟩⟩⟩⟩⟩⟩
  refine TS.reg [] ?_ ?_
  · apply prop_of ?_ hq
    kernel_rfl
  refine XS.then ?_
  refine TS.ret ?_
  obtain rfl : ([(0 : Int), (1 : Int), (2 : Int), (4 : Int)].getD ((first.tmod (4 : Int)).toNat) (0 : Int)) = r := Option.some.inj h
  exact XS.fin [] ((True) ∧ (True)) (by kernel_rfl) ⟨trivial, trivial⟩

/-! plugtree/plugref.Two -/
def F95_l2 (n : Nat) (k : Int) (k95_2 : (Int × Int) → Option Int) : (Int × Int) → Option Int
  | (vn, x) => (bif (decide (x < k)) then (k95_2 ((IntKind.wrap .i64 (vn * (2 : Int))), (IntKind.wrap .i64 (x + (1 : Int))))) else (some vn))
def F95 (n : Nat) (k : Int) : Option Int := (loopF (F95_l2 n k) n ((1 : Int), (0 : Int)))
theorem F95_ok (n : Nat) (k : Int) (r : Int) (h : F95 n k = some r) : PureC Try.prog 95 [(.int .i64 k)] (.int .i64 r) [] := by
  refine PureC.mkS Try.func95 rfl rfl ?_
  intro w0 fz0 hfz
  replace h : (loopF (F95_l2 n k) n ((1 : Int), (0 : Int))) = some r := h
  refine TS.seq ?_
  have hq : (True) ∧ (True) := ⟨trivial, trivial⟩
  refine TS.reg [] ?_ ?_
  · apply prop_of ?_ hq
    kernel_rfl
  refine XS.then ?_
  refine TS.seq ?_
  have hq : (True) ∧ (True) := ⟨trivial, trivial⟩
  refine TS.reg [] ?_ ?_
  · apply prop_of ?_ hq
    kernel_rfl
  refine XS.then ?_
  refine TS.seq ?_
  refine TS.seq ?_
  have hq : (True) ∧ ((True) ∧ (True)) := ⟨trivial, ⟨trivial, trivial⟩⟩
  refine TS.reg [] ?_ ?_
  · apply prop_of ?_ hq
    kernel_rfl
  refine XS.then ?_
  refine TS.block ?_
  refine TS.reLoop [] (mkMask 11 [3, 4, 5]) (D := Int × Int) (fun d => match d with | (vn, x) => (mkTs 11 [(3, (.int .i64 vn)), (4, (.int .i64 k)), (5, (.int .i64 x))], [])) (fun n' d => loopF (F95_l2 n k) n' d = some r) n ((1 : Int), (0 : Int)) h ?_ (fun d => loopF_zero _ d r) ?_
  · kernel_rfl
  · rintro n2 ⟨vn, x⟩ h
    replace h : (bif (decide (x < k)) then ((loopF (F95_l2 n k) n2) ((IntKind.wrap .i64 (vn * (2 : Int))), (IntKind.wrap .i64 (x + (1 : Int))))) else (some vn)) = some r := h
    refine TS.seq ?_
    have hq : (True) ∧ (True) := ⟨trivial, trivial⟩
    refine TS.reg [] ?_ ?_
    · apply prop_of ?_ hq
      kernel_rfl
    refine XS.then ?_
    refine TS.seq ?_
    rcases bif_some h with ⟨c1, h⟩ | ⟨c2, h⟩
    · refine TS.cond (decide (x < k)) ?_ (fun e => ?_) (fun e => by rw [c1] at e; cases e)
      · kernel_rfl
      refine TS.skip ?_
      refine XS.then ?_
      refine TS.seq ?_
      refine TS.block ?_
      have hq : (True) ∧ ((True) ∧ ((True) ∧ (True))) := ⟨trivial, ⟨trivial, ⟨trivial, trivial⟩⟩⟩
      refine TS.reg [] ?_ ?_
      · apply prop_of ?_ hq
        kernel_rfl
      refine XS.blockEnd ?_
      refine XS.then ?_
      have hq : (True) ∧ ((True) ∧ (True)) := ⟨trivial, ⟨trivial, trivial⟩⟩
      refine TS.reg [] ?_ ?_
      · apply prop_of ?_ hq
        kernel_rfl
      refine XS.reAny [] (mkMask 11 [3, 4, 5]) ((IntKind.wrap .i64 (vn * (2 : Int))), (IntKind.wrap .i64 (x + (1 : Int)))) h ?_
      kernel_rfl
    · refine TS.cond (decide (x < k)) ?_ (fun e => by rw [c2] at e; cases e) (fun e => ?_)
      · kernel_rfl
      refine TS.exit ?_
      refine XS.passE ?_
      refine XS.passE ?_
      refine XS.out ?_
      refine XS.then ?_
      refine TS.seq ?_
      have hq : (True) ∧ ((True) ∧ (True)) := ⟨trivial, ⟨trivial, trivial⟩⟩
      refine TS.reg [] ?_ ?_
      · apply prop_of ?_ hq
        kernel_rfl
      refine XS.then ?_
      refine TS.ret ?_
      obtain rfl : vn = r := Option.some.inj h
      exact XS.fin [] ((True) ∧ (True)) (by kernel_rfl) ⟨trivial, trivial⟩

/-! plugtree/plugref.SignNum -/
def F93_l2 (n : Nat) (s : List UInt8) (k93_2 : (Int × Int) → Option Int) : (Int × Int) → Option Int
  | (vn, x) => (bif (decide (x < ((s.length : Nat) : Int))) then (bif inb x s.length then ((F95 n (IntKind.wrap .i64 ((8 : Int) * x))).bind fun y_2 => (k93_2 ((IntKind.wrap .i64 (vn + (IntKind.wrap .i64 ((IntKind.wrap .i64 ((((s.getD x.toNat 0).toNat : Nat) : Int))) * y_2)))), (IntKind.wrap .i64 (x + (1 : Int)))))) else none) else (bif (!(s == ([] : List UInt8))) then (bif inb (IntKind.wrap .i64 (((s.length : Nat) : Int) - (1 : Int))) s.length then (bif (decide ((((s.getD ((IntKind.wrap .i64 (((s.length : Nat) : Int) - (1 : Int))).toNat) 0).toNat : Nat) : Int) ≥ (128 : Int))) then ((F95 n (IntKind.wrap .i64 ((8 : Int) * ((s.length : Nat) : Int)))).bind fun y_3 => (some (IntKind.wrap .i64 (vn - y_3)))) else (some vn)) else none) else (some vn)))
def F93 (n : Nat) (s : List UInt8) : Option Int := (loopF (F93_l2 n s) n ((0 : Int), (0 : Int)))
theorem F93_ok (n : Nat) (s : List UInt8) (r : Int) (h : F93 n s = some r) : PureC Try.prog 93 [(.str s)] (.int .i64 r) [] := by
  refine PureC.mkS Try.func93 rfl rfl ?_
  intro w0 fz0 hfz
  replace h : (loopF (F93_l2 n s) n ((0 : Int), (0 : Int))) = some r := h
  refine TS.seq ?_
  have hq : (True) ∧ (True) := ⟨trivial, trivial⟩
  refine TS.reg [] ?_ ?_
  · apply prop_of ?_ hq
    kernel_rfl
  refine XS.then ?_
  refine TS.seq ?_
  have hq : (True) ∧ (True) := ⟨trivial, trivial⟩
  refine TS.reg [] ?_ ?_
  · apply prop_of ?_ hq
    kernel_rfl
  refine XS.then ?_
  refine TS.seq ?_
  refine TS.seq ?_
  have hq : (True) ∧ ((True) ∧ ((True) ∧ (True))) := ⟨trivial, ⟨trivial, ⟨trivial, trivial⟩⟩⟩
  refine TS.reg [] ?_ ?_
  · apply prop_of ?_ hq
    kernel_rfl
  refine XS.then ?_
  refine TS.block ?_
  refine TS.reLoop [] (mkMask 38 [0, 3, 6, 7]) (D := Int × Int) (fun d => match d with | (vn, x) => (mkTs 38 [(0, (.str s)), (3, (.int .i64 vn)), (6, (.int .i64 ((s.length : Nat) : Int))), (7, (.int .i64 x))], [])) (fun n' d => loopF (F93_l2 n s) n' d = some r) n ((0 : Int), (0 : Int)) h ?_ (fun d => loopF_zero _ d r) ?_
  · kernel_rfl
  · rintro n2 ⟨vn, x⟩ h
    replace h : (bif (decide (x < ((s.length : Nat) : Int))) then (bif inb x s.length then ((F95 n (IntKind.wrap .i64 ((8 : Int) * x))).bind fun y_2 => ((loopF (F93_l2 n s) n2) ((IntKind.wrap .i64 (vn + (IntKind.wrap .i64 ((IntKind.wrap .i64 ((((s.getD x.toNat 0).toNat : Nat) : Int))) * y_2)))), (IntKind.wrap .i64 (x + (1 : Int)))))) else none) else (bif (!(s == ([] : List UInt8))) then (bif inb (IntKind.wrap .i64 (((s.length : Nat) : Int) - (1 : Int))) s.length then (bif (decide ((((s.getD ((IntKind.wrap .i64 (((s.length : Nat) : Int) - (1 : Int))).toNat) 0).toNat : Nat) : Int) ≥ (128 : Int))) then ((F95 n (IntKind.wrap .i64 ((8 : Int) * ((s.length : Nat) : Int)))).bind fun y_3 => (some (IntKind.wrap .i64 (vn - y_3)))) else (some vn)) else none) else (some vn))) = some r := h
    refine TS.seq ?_
    have hq : (True) ∧ (True) := ⟨trivial, trivial⟩
    refine TS.reg [] ?_ ?_
    · apply prop_of ?_ hq
      kernel_rfl
    refine XS.then ?_
    refine TS.seq ?_
    rcases bif_some h with ⟨c1, h⟩ | ⟨c2, h⟩
    · refine TS.cond (decide (x < ((s.length : Nat) : Int))) ?_ (fun e => ?_) (fun e => by rw [c1] at e; cases e)
      · kernel_rfl
      refine TS.skip ?_
      refine XS.then ?_
      refine TS.seq ?_
      refine TS.block ?_
      refine TS.seq ?_
      have hq : (True) ∧ ((True) ∧ (True)) := ⟨trivial, ⟨trivial, trivial⟩⟩
      refine TS.reg [] ?_ ?_
      · apply prop_of ?_ hq
        kernel_rfl
      refine XS.then ?_
      obtain ⟨t3, h⟩ := test_some h
      obtain ⟨y_2, hx4, h⟩ := bind_some' h
      have hq : ((True) ∧ ((True) ∧ ((True) ∧ ((inR x s.length) ∧ ((True) ∧ ((True) ∧ ((True) ∧ ((PureC Try.prog 95 [(.int .i64 (IntKind.wrap .i64 ((8 : Int) * x)))] (.int .i64 y_2) []) ∧ ((True) ∧ ((True) ∧ (True))))))))))) ∧ ((True) ∧ (True)) := ⟨⟨trivial, ⟨trivial, ⟨trivial, ⟨inb_ok t3, ⟨trivial, ⟨trivial, ⟨trivial, ⟨F95_ok n (IntKind.wrap .i64 ((8 : Int) * x)) y_2 hx4, ⟨trivial, ⟨trivial, trivial⟩⟩⟩⟩⟩⟩⟩⟩⟩⟩, ⟨trivial, trivial⟩⟩
      refine TS.draw 10 [] [.none, .none, .none, .none, .none, .none, .none, (.call (.int .i64 y_2) [])] (by kernel_rfl) ?_ ?_
      · apply prop_of ?_ hq
        kernel_rfl
      refine XS.blockEnd ?_
      refine XS.then ?_
      have hq : (True) ∧ ((True) ∧ (True)) := ⟨trivial, ⟨trivial, trivial⟩⟩
      refine TS.reg [] ?_ ?_
      · apply prop_of ?_ hq
        kernel_rfl
      refine XS.reAny [] (mkMask 38 [0, 3, 6, 7]) ((IntKind.wrap .i64 (vn + (IntKind.wrap .i64 ((IntKind.wrap .i64 ((((s.getD x.toNat 0).toNat : Nat) : Int))) * y_2)))), (IntKind.wrap .i64 (x + (1 : Int)))) h ?_
      kernel_rfl
    · refine TS.cond (decide (x < ((s.length : Nat) : Int))) ?_ (fun e => by rw [c2] at e; cases e) (fun e => ?_)
      · kernel_rfl
      refine TS.exit ?_
      refine XS.passE ?_
      refine XS.passE ?_
      refine XS.out ?_
      refine XS.then ?_
      refine TS.seq ?_
      refine TS.seq ?_
      rcases bif_some h with ⟨c5, h⟩ | ⟨c6, h⟩
      · obtain ⟨t7, h⟩ := test_some h
        have hq : (True) ∧ ((True) ∧ (((True) ∧ (!(s == ([] : List UInt8))) = true) ∧ ((True) ∧ ((True) ∧ ((True) ∧ ((True) ∧ ((inR (IntKind.wrap .i64 (((s.length : Nat) : Int) - (1 : Int))) s.length) ∧ ((True) ∧ ((True) ∧ (True)))))))))) := ⟨trivial, ⟨trivial, ⟨⟨trivial, c5⟩, ⟨trivial, ⟨trivial, ⟨trivial, ⟨trivial, ⟨inb_ok t7, ⟨trivial, ⟨trivial, trivial⟩⟩⟩⟩⟩⟩⟩⟩⟩⟩
        refine TS.reg [.none, .none, .dec true] ?_ ?_
        · apply prop_of ?_ hq
          kernel_rfl
        refine XS.then ?_
        rcases bif_some h with ⟨c8, h⟩ | ⟨c9, h⟩
        · refine TS.cond (decide ((((s.getD ((IntKind.wrap .i64 (((s.length : Nat) : Int) - (1 : Int))).toNat) 0).toNat : Nat) : Int) ≥ (128 : Int))) ?_ (fun e => ?_) (fun e => by rw [c8] at e; cases e)
          · kernel_rfl
          obtain ⟨y_3, hx10, h⟩ := bind_some' h
          have hq : (True) ∧ ((True) ∧ ((True) ∧ ((True) ∧ ((PureC Try.prog 95 [(.int .i64 (IntKind.wrap .i64 ((8 : Int) * ((s.length : Nat) : Int))))] (.int .i64 y_3) []) ∧ ((True) ∧ ((True) ∧ (True))))))) := ⟨trivial, ⟨trivial, ⟨trivial, ⟨trivial, ⟨F95_ok n (IntKind.wrap .i64 ((8 : Int) * ((s.length : Nat) : Int))) y_3 hx10, ⟨trivial, ⟨trivial, trivial⟩⟩⟩⟩⟩⟩⟩
          refine TS.reg [.none, .none, .none, .none, (.call (.int .i64 y_3) [])] ?_ ?_
          · apply prop_of ?_ hq
            kernel_rfl
          refine XS.then ?_
          refine TS.seq ?_
          have hq : (True) ∧ ((True) ∧ (True)) := ⟨trivial, ⟨trivial, trivial⟩⟩
          refine TS.reg [] ?_ ?_
          · apply prop_of ?_ hq
            kernel_rfl
          refine XS.then ?_
          refine TS.ret ?_
          obtain rfl : (IntKind.wrap .i64 (vn - y_3)) = r := Option.some.inj h
          exact XS.fin [] ((True) ∧ (True)) (by kernel_rfl) ⟨trivial, trivial⟩
        · refine TS.cond (decide ((((s.getD ((IntKind.wrap .i64 (((s.length : Nat) : Int) - (1 : Int))).toNat) 0).toNat : Nat) : Int) ≥ (128 : Int))) ?_ (fun e => by rw [c9] at e; cases e) (fun e => ?_)
          · kernel_rfl
          refine TS.skip ?_
          refine XS.then ?_
          refine TS.seq ?_
          have hq : (True) ∧ ((True) ∧ (True)) := ⟨trivial, ⟨trivial, trivial⟩⟩
          refine TS.reg [] ?_ ?_
          · apply prop_of ?_ hq
            kernel_rfl
          refine XS.then ?_
          refine TS.ret ?_
          obtain rfl : vn = r := Option.some.inj h
          exact XS.fin [] ((True) ∧ (True)) (by kernel_rfl) ⟨trivial, trivial⟩
      · have hq : (True) ∧ ((True) ∧ (((True) ∧ (!(s == ([] : List UInt8))) = false) ∧ ((True) ∧ (True)))) := ⟨trivial, ⟨trivial, ⟨⟨trivial, c6⟩, ⟨trivial, trivial⟩⟩⟩⟩
        refine TS.reg [.none, .none, .dec false] ?_ ?_
        · apply prop_of ?_ hq
          kernel_rfl
        refine XS.then ?_
        refine TS.no ?_ ?_
        · kernel_rfl
        refine TS.skip ?_
        refine XS.then ?_
        refine TS.seq ?_
        have hq : (True) ∧ ((True) ∧ (True)) := ⟨trivial, ⟨trivial, trivial⟩⟩
        refine TS.reg [] ?_ ?_
        · apply prop_of ?_ hq
          kernel_rfl
        refine XS.then ?_
        refine TS.ret ?_
        obtain rfl : vn = r := Option.some.inj h
        exact XS.fin [] ((True) ∧ (True)) (by kernel_rfl) ⟨trivial, trivial⟩

/-! plugtree/plugref.Items -/
def F42_l2 (n : Nat) (s : List UInt8) (k42_2 : (Int × (List (Int × Int))) → Option (Int × (List (Int × Int)))) : (Int × (List (Int × Int))) → Option (Int × (List (Int × Int)))
  | (vat, m0) => (bif (decide (vat < ((s.length : Nat) : Int))) then (bif inb vat s.length then ((F92 n (((s.getD vat.toNat 0).toNat : Nat) : Int)).bind fun y_3 => (bif (decide ((IntKind.wrap .i64 (vat + y_3)) ≥ ((s.length : Nat) : Int))) then (some ((3 : Int), ([] : List (Int × Int)))) else (bif (decide (((m0.length : Nat) : Int) ≥ (200 : Int))) then (some ((2 : Int), ([] : List (Int × Int)))) else (bif subB s.length (some (IntKind.wrap .i64 (vat + (1 : Int)))) (some (IntKind.wrap .i64 ((IntKind.wrap .i64 (vat + (1 : Int))) + y_3))) then ((F93 n ((s.take (IntKind.wrap .i64 ((IntKind.wrap .i64 (vat + (1 : Int))) + y_3)).toNat).drop (IntKind.wrap .i64 (vat + (1 : Int))).toNat)).bind fun y_4 => (bif (decide (m0.length + [((IntKind.wrap .i64 ((IntKind.wrap .i64 ((((s.getD vat.toNat 0).toNat : Nat) : Int))).tdiv (4 : Int))), y_4)].length ≤ 17179869184)) then (k42_2 ((IntKind.wrap .i64 (vat + (IntKind.wrap .i64 ((1 : Int) + y_3)))), (m0 ++ [((IntKind.wrap .i64 ((IntKind.wrap .i64 ((((s.getD vat.toNat 0).toNat : Nat) : Int))).tdiv (4 : Int))), y_4)]))) else none)) else none)))) else none) else (some ((0 : Int), m0)))
def F42 (n : Nat) (s : List UInt8) : Option (Int × (List (Int × Int))) := (bif (decide (((s.length : Nat) : Int) > (512 : Int))) then (some ((2 : Int), ([] : List (Int × Int)))) else (loopF (F42_l2 n s) n ((0 : Int), ([] : List (Int × Int)))))
theorem F42_ok (n : Nat) (s : List UInt8) (r : Int × (List (Int × Int))) (h : F42 n s = some r) : PureC Try.prog 42 [(.str s)] (.tup (.cons (.row 0) (.cons (.int .i64 r.1) .nil))) [(.row 64 (.st (.pair (.int .i64) (.int .i64))) r.2)] := by
  refine PureC.mkS Try.func42 rfl rfl ?_
  intro w0 fz0 hfz
  replace h : (bif (decide (((s.length : Nat) : Int) > (512 : Int))) then (some ((2 : Int), ([] : List (Int × Int)))) else (loopF (F42_l2 n s) n ((0 : Int), ([] : List (Int × Int))))) = some r := h
  refine TS.seq ?_
  have hq : (True) ∧ ((True) ∧ (True)) := ⟨trivial, ⟨trivial, trivial⟩⟩
  refine TS.reg [] ?_ ?_
  · apply prop_of ?_ hq
    kernel_rfl
  refine XS.then ?_
  refine TS.seq ?_
  refine TS.seq ?_
  have hq : (True) ∧ ((True) ∧ ((True) ∧ (True))) := ⟨trivial, ⟨trivial, ⟨trivial, trivial⟩⟩⟩
  refine TS.reg [] ?_ ?_
  · apply prop_of ?_ hq
    kernel_rfl
  refine XS.then ?_
  rcases bif_some h with ⟨c1, h⟩ | ⟨c2, h⟩
  · refine TS.cond (decide (((s.length : Nat) : Int) > (512 : Int))) ?_ (fun e => ?_) (fun e => by rw [c1] at e; cases e)
    · kernel_rfl
    refine TS.seq ?_
    have hq : (True) ∧ ((True) ∧ (True)) := ⟨trivial, ⟨trivial, trivial⟩⟩
    refine TS.reg [] ?_ ?_
    · apply prop_of ?_ hq
      kernel_rfl
    refine XS.then ?_
    refine TS.ret ?_
    refine XS.passR ?_
    obtain rfl : ((2 : Int), ([] : List (Int × Int))) = r := Option.some.inj h
    refine XS.wk (.row false 2 [] 64 (.st (.pair (.int .i64) (.int .i64)))) ?_
    exact XS.fin [0] ((True) ∧ ((True) ∧ (True))) (by kernel_rfl) ⟨trivial, ⟨trivial, trivial⟩⟩
  · refine TS.cond (decide (((s.length : Nat) : Int) > (512 : Int))) ?_ (fun e => by rw [c2] at e; cases e) (fun e => ?_)
    · kernel_rfl
    refine TS.skip ?_
    refine XS.then ?_
    refine TS.seq ?_
    have hq : (True) ∧ (True) := ⟨trivial, trivial⟩
    refine TS.reg [] ?_ ?_
    · apply prop_of ?_ hq
      kernel_rfl
    refine XS.then ?_
    refine TS.seq ?_
    refine TS.seq ?_
    have hq : (True) ∧ (True) := ⟨trivial, trivial⟩
    refine TS.reg [] ?_ ?_
    · apply prop_of ?_ hq
      kernel_rfl
    refine XS.then ?_
    refine TS.block ?_
    refine TS.wk (.row false 4 [] 64 (.st (.pair (.int .i64) (.int .i64)))) ?_
    refine TS.reLoop [0] (mkMask 50 [0, 4, 5]) (D := Int × (List (Int × Int))) (fun d => match d with | (vat, m0) => (mkTs 50 [(0, (.str s)), (4, (.row 0)), (5, (.int .i64 vat))], [(.row 64 (.st (.pair (.int .i64) (.int .i64))) m0)])) (fun n' d => loopF (F42_l2 n s) n' d = some r) n ((0 : Int), ([] : List (Int × Int))) h ?_ (fun d => loopF_zero _ d r) ?_
    · kernel_rfl
    · rintro n2 ⟨vat, m0⟩ h
      replace h : (bif (decide (vat < ((s.length : Nat) : Int))) then (bif inb vat s.length then ((F92 n (((s.getD vat.toNat 0).toNat : Nat) : Int)).bind fun y_3 => (bif (decide ((IntKind.wrap .i64 (vat + y_3)) ≥ ((s.length : Nat) : Int))) then (some ((3 : Int), ([] : List (Int × Int)))) else (bif (decide (((m0.length : Nat) : Int) ≥ (200 : Int))) then (some ((2 : Int), ([] : List (Int × Int)))) else (bif subB s.length (some (IntKind.wrap .i64 (vat + (1 : Int)))) (some (IntKind.wrap .i64 ((IntKind.wrap .i64 (vat + (1 : Int))) + y_3))) then ((F93 n ((s.take (IntKind.wrap .i64 ((IntKind.wrap .i64 (vat + (1 : Int))) + y_3)).toNat).drop (IntKind.wrap .i64 (vat + (1 : Int))).toNat)).bind fun y_4 => (bif (decide (m0.length + [((IntKind.wrap .i64 ((IntKind.wrap .i64 ((((s.getD vat.toNat 0).toNat : Nat) : Int))).tdiv (4 : Int))), y_4)].length ≤ 17179869184)) then ((loopF (F42_l2 n s) n2) ((IntKind.wrap .i64 (vat + (IntKind.wrap .i64 ((1 : Int) + y_3)))), (m0 ++ [((IntKind.wrap .i64 ((IntKind.wrap .i64 ((((s.getD vat.toNat 0).toNat : Nat) : Int))).tdiv (4 : Int))), y_4)]))) else none)) else none)))) else none) else (some ((0 : Int), m0))) = some r := h
      refine TS.seq ?_
      refine TS.seq ?_
      have hq : (True) ∧ ((True) ∧ ((True) ∧ ((True) ∧ (True)))) := ⟨trivial, ⟨trivial, ⟨trivial, ⟨trivial, trivial⟩⟩⟩⟩
      refine TS.reg [] ?_ ?_
      · apply prop_of ?_ hq
        kernel_rfl
      refine XS.then ?_
      rcases bif_some h with ⟨c3, h⟩ | ⟨c4, h⟩
      · refine TS.cond (decide (vat < ((s.length : Nat) : Int))) ?_ (fun e => ?_) (fun e => by rw [c3] at e; cases e)
        · kernel_rfl
        refine TS.skip ?_
        refine XS.then ?_
        refine TS.block ?_
        refine TS.seq ?_
        obtain ⟨t5, h⟩ := test_some h
        obtain ⟨y_3, hx6, h⟩ := bind_some' h
        have hq : (True) ∧ ((True) ∧ ((inR vat s.length) ∧ ((PureC Try.prog 92 [(.int .u8 (((s.getD vat.toNat 0).toNat : Nat) : Int))] (.int .i64 y_3) []) ∧ ((True) ∧ (True))))) := ⟨trivial, ⟨trivial, ⟨inb_ok t5, ⟨F92_ok n (((s.getD vat.toNat 0).toNat : Nat) : Int) y_3 hx6, ⟨trivial, trivial⟩⟩⟩⟩⟩
        refine TS.reg [.none, .none, .none, (.call (.int .i64 y_3) [])] ?_ ?_
        · apply prop_of ?_ hq
          kernel_rfl
        refine XS.then ?_
        refine TS.seq ?_
        refine TS.seq ?_
        have hq : (True) ∧ ((True) ∧ ((True) ∧ ((True) ∧ ((True) ∧ ((True) ∧ (True)))))) := ⟨trivial, ⟨trivial, ⟨trivial, ⟨trivial, ⟨trivial, ⟨trivial, trivial⟩⟩⟩⟩⟩⟩
        refine TS.reg [] ?_ ?_
        · apply prop_of ?_ hq
          kernel_rfl
        refine XS.then ?_
        rcases bif_some h with ⟨c7, h⟩ | ⟨c8, h⟩
        · refine TS.cond (decide ((IntKind.wrap .i64 (vat + y_3)) ≥ ((s.length : Nat) : Int))) ?_ (fun e => ?_) (fun e => by rw [c7] at e; cases e)
          · kernel_rfl
          refine TS.seq ?_
          have hq : (True) ∧ ((True) ∧ (True)) := ⟨trivial, ⟨trivial, trivial⟩⟩
          refine TS.reg [] ?_ ?_
          · apply prop_of ?_ hq
            kernel_rfl
          refine XS.then ?_
          refine TS.ret ?_
          refine XS.passR ?_
          refine XS.blockRet ?_
          refine XS.passR ?_
          refine XS.blockRet ?_
          refine XS.passR ?_
          obtain rfl : ((3 : Int), ([] : List (Int × Int))) = r := Option.some.inj h
          refine XS.wk (.row false 2 [] 64 (.st (.pair (.int .i64) (.int .i64)))) ?_
          exact XS.fin [1] ((True) ∧ ((True) ∧ (True))) (by kernel_rfl) ⟨trivial, ⟨trivial, trivial⟩⟩
        · refine TS.cond (decide ((IntKind.wrap .i64 (vat + y_3)) ≥ ((s.length : Nat) : Int))) ?_ (fun e => by rw [c8] at e; cases e) (fun e => ?_)
          · kernel_rfl
          refine TS.skip ?_
          refine XS.then ?_
          refine TS.seq ?_
          refine TS.seq ?_
          have hq : (True) ∧ ((True) ∧ ((True) ∧ (True))) := ⟨trivial, ⟨trivial, ⟨trivial, trivial⟩⟩⟩
          refine TS.reg [] ?_ ?_
          · apply prop_of ?_ hq
            kernel_rfl
          refine XS.then ?_
          rcases bif_some h with ⟨c9, h⟩ | ⟨c10, h⟩
          · refine TS.cond (decide (((m0.length : Nat) : Int) ≥ (200 : Int))) ?_ (fun e => ?_) (fun e => by rw [c9] at e; cases e)
            · kernel_rfl
            refine TS.seq ?_
            have hq : (True) ∧ ((True) ∧ (True)) := ⟨trivial, ⟨trivial, trivial⟩⟩
            refine TS.reg [] ?_ ?_
            · apply prop_of ?_ hq
              kernel_rfl
            refine XS.then ?_
            refine TS.ret ?_
            refine XS.passR ?_
            refine XS.blockRet ?_
            refine XS.passR ?_
            refine XS.blockRet ?_
            refine XS.passR ?_
            obtain rfl : ((2 : Int), ([] : List (Int × Int))) = r := Option.some.inj h
            refine XS.wk (.row false 2 [] 64 (.st (.pair (.int .i64) (.int .i64)))) ?_
            exact XS.fin [1] ((True) ∧ ((True) ∧ (True))) (by kernel_rfl) ⟨trivial, ⟨trivial, trivial⟩⟩
          · refine TS.cond (decide (((m0.length : Nat) : Int) ≥ (200 : Int))) ?_ (fun e => by rw [c10] at e; cases e) (fun e => ?_)
            · kernel_rfl
            refine TS.skip ?_
            refine XS.then ?_
            refine TS.seq ?_
            obtain ⟨t11, h⟩ := test_some h
            obtain ⟨y_4, hx12, h⟩ := bind_some' h
            obtain ⟨t13, h⟩ := test_some h
            have hq : ((True) ∧ ((True) ∧ ((True) ∧ ((inR vat s.length) ∧ ((True) ∧ (((4 : Int) ≠ 0) ∧ ((True) ∧ ((True) ∧ ((True) ∧ ((True) ∧ ((True) ∧ ((True) ∧ ((True) ∧ ((subC s.length (some (IntKind.wrap .i64 (vat + (1 : Int)))) (some (IntKind.wrap .i64 ((IntKind.wrap .i64 (vat + (1 : Int))) + y_3)))) ∧ ((PureC Try.prog 93 [(.str ((s.take (IntKind.wrap .i64 ((IntKind.wrap .i64 (vat + (1 : Int))) + y_3)).toNat).drop (IntKind.wrap .i64 (vat + (1 : Int))).toNat))] (.int .i64 y_4) []) ∧ (((True) ∧ ((True) ∧ (True))) ∧ (((0 < 1 ∧ True) ∧ (True)) ∧ (True)))))))))))))))))) ∧ ((m0.length + [((IntKind.wrap .i64 ((IntKind.wrap .i64 ((((s.getD vat.toNat 0).toNat : Nat) : Int))).tdiv (4 : Int))), y_4)].length ≤ 17179869184) ∧ ((True) ∧ (True))) := ⟨⟨trivial, ⟨trivial, ⟨trivial, ⟨inb_ok t5, ⟨trivial, ⟨by decide, ⟨trivial, ⟨trivial, ⟨trivial, ⟨trivial, ⟨trivial, ⟨trivial, ⟨trivial, ⟨subB_ok t11, ⟨F93_ok n ((s.take (IntKind.wrap .i64 ((IntKind.wrap .i64 (vat + (1 : Int))) + y_3)).toNat).drop (IntKind.wrap .i64 (vat + (1 : Int))).toNat) y_4 hx12, ⟨⟨trivial, ⟨trivial, trivial⟩⟩, ⟨⟨⟨by decide, trivial⟩, trivial⟩, trivial⟩⟩⟩⟩⟩⟩⟩⟩⟩⟩⟩⟩⟩⟩⟩⟩⟩, ⟨of_decide_eq_true t13, ⟨trivial, trivial⟩⟩⟩
            refine TS.draw 17 [] [.none, .none, .none, .none, .none, .none, .none, .none, .none, .none, .none, .none, .none, .none, (.call (.int .i64 y_4) [])] (by kernel_rfl) ?_ ?_
            · apply prop_of ?_ hq
              kernel_rfl
            refine XS.then ?_
            have hq : (True) ∧ ((True) ∧ ((True) ∧ ((True) ∧ ((True) ∧ (True))))) := ⟨trivial, ⟨trivial, ⟨trivial, ⟨trivial, ⟨trivial, trivial⟩⟩⟩⟩⟩
            refine TS.reg [] ?_ ?_
            · apply prop_of ?_ hq
              kernel_rfl
            refine XS.blockEnd ?_
            refine XS.reAny [2] (mkMask 50 [0, 4, 5]) ((IntKind.wrap .i64 (vat + (IntKind.wrap .i64 ((1 : Int) + y_3)))), (m0 ++ [((IntKind.wrap .i64 ((IntKind.wrap .i64 ((((s.getD vat.toNat 0).toNat : Nat) : Int))).tdiv (4 : Int))), y_4)])) h ?_
            kernel_rfl
      · refine TS.cond (decide (vat < ((s.length : Nat) : Int))) ?_ (fun e => by rw [c4] at e; cases e) (fun e => ?_)
        · kernel_rfl
        refine TS.exit ?_
        refine XS.passE ?_
        refine XS.passE ?_
        refine XS.out ?_
        refine XS.then ?_
        refine TS.seq ?_
        have hq : (True) ∧ ((True) ∧ ((True) ∧ (True))) := ⟨trivial, ⟨trivial, ⟨trivial, trivial⟩⟩⟩
        refine TS.reg [] ?_ ?_
        · apply prop_of ?_ hq
          kernel_rfl
        refine XS.then ?_
        refine TS.ret ?_
        obtain rfl : ((0 : Int), m0) = r := Option.some.inj h
        exact XS.fin [0] ((True) ∧ ((True) ∧ (True))) (by kernel_rfl) ⟨trivial, ⟨trivial, trivial⟩⟩

/-! plugtree/report.size -/
def F94 (n : Nat) (v : Int) : Option (Int × Int) := (bif (v == (0 : Int)) then (some ((0 : Int), (0 : Int))) else (bif (decide (v ≥ (-128 : Int))) then (bif (decide (v < (128 : Int))) then (some ((1 : Int), (1 : Int))) else (bif (decide (v ≥ (-32768 : Int))) then (bif (decide (v < (32768 : Int))) then (some ((2 : Int), (2 : Int))) else (some ((3 : Int), (4 : Int)))) else (some ((3 : Int), (4 : Int))))) else (bif (decide (v ≥ (-32768 : Int))) then (bif (decide (v < (32768 : Int))) then (some ((2 : Int), (2 : Int))) else (some ((3 : Int), (4 : Int)))) else (some ((3 : Int), (4 : Int))))))
theorem F94_ok (n : Nat) (v : Int) (r : Int × Int) (h : F94 n v = some r) : PureC Try.prog 94 [(.int .i64 v)] (.tup (.cons (.int .i64 r.1) (.cons (.int .i64 r.2) .nil))) [] := by
  refine PureC.mkS Try.func94 rfl rfl ?_
  intro w0 fz0 hfz
  replace h : (bif (v == (0 : Int)) then (some ((0 : Int), (0 : Int))) else (bif (decide (v ≥ (-128 : Int))) then (bif (decide (v < (128 : Int))) then (some ((1 : Int), (1 : Int))) else (bif (decide (v ≥ (-32768 : Int))) then (bif (decide (v < (32768 : Int))) then (some ((2 : Int), (2 : Int))) else (some ((3 : Int), (4 : Int)))) else (some ((3 : Int), (4 : Int))))) else (bif (decide (v ≥ (-32768 : Int))) then (bif (decide (v < (32768 : Int))) then (some ((2 : Int), (2 : Int))) else (some ((3 : Int), (4 : Int)))) else (some ((3 : Int), (4 : Int)))))) = some r := h
  refine TS.seq ?_
  have hq : (True) ∧ ((True) ∧ (True)) := ⟨trivial, ⟨trivial, trivial⟩⟩
  refine TS.reg [] ?_ ?_
  · apply prop_of ?_ hq
    kernel_rfl
  refine XS.then ?_
  refine TS.seq ?_
  refine TS.block ?_
  refine TS.seq ?_
  have hq : (True) ∧ ((True) ∧ ((True) ∧ (True))) := ⟨trivial, ⟨trivial, ⟨trivial, trivial⟩⟩⟩
  refine TS.reg [] ?_ ?_
  · apply prop_of ?_ hq
    kernel_rfl
  refine XS.then ?_
  rcases bif_some h with ⟨c1, h⟩ | ⟨c2, h⟩
  · refine TS.cond (v == (0 : Int)) ?_ (fun e => ?_) (fun e => by rw [c1] at e; cases e)
    · kernel_rfl
    refine TS.seq ?_
    have hq : (True) ∧ ((True) ∧ (True)) := ⟨trivial, ⟨trivial, trivial⟩⟩
    refine TS.reg [] ?_ ?_
    · apply prop_of ?_ hq
      kernel_rfl
    refine XS.then ?_
    refine TS.ret ?_
    refine XS.blockRet ?_
    refine XS.passR ?_
    obtain rfl : ((0 : Int), (0 : Int)) = r := Option.some.inj h
    exact XS.fin [] ((True) ∧ ((True) ∧ (True))) (by kernel_rfl) ⟨trivial, ⟨trivial, trivial⟩⟩
  · refine TS.cond (v == (0 : Int)) ?_ (fun e => by rw [c2] at e; cases e) (fun e => ?_)
    · kernel_rfl
    refine TS.seq ?_
    rcases bif_some h with ⟨c3, h⟩ | ⟨c4, h⟩
    · have hq : (True) ∧ ((True) ∧ (((True) ∧ (decide (v ≥ (-128 : Int))) = true) ∧ ((True) ∧ ((True) ∧ ((True) ∧ ((True) ∧ (True))))))) := ⟨trivial, ⟨trivial, ⟨⟨trivial, c3⟩, ⟨trivial, ⟨trivial, ⟨trivial, ⟨trivial, trivial⟩⟩⟩⟩⟩⟩⟩
      refine TS.reg [.none, .none, .dec true] ?_ ?_
      · apply prop_of ?_ hq
        kernel_rfl
      refine XS.then ?_
      rcases bif_some h with ⟨c5, h⟩ | ⟨c6, h⟩
      · refine TS.cond (decide (v < (128 : Int))) ?_ (fun e => ?_) (fun e => by rw [c5] at e; cases e)
        · kernel_rfl
        refine TS.seq ?_
        have hq : (True) ∧ ((True) ∧ (True)) := ⟨trivial, ⟨trivial, trivial⟩⟩
        refine TS.reg [] ?_ ?_
        · apply prop_of ?_ hq
          kernel_rfl
        refine XS.then ?_
        refine TS.ret ?_
        refine XS.blockRet ?_
        refine XS.passR ?_
        obtain rfl : ((1 : Int), (1 : Int)) = r := Option.some.inj h
        exact XS.fin [] ((True) ∧ ((True) ∧ (True))) (by kernel_rfl) ⟨trivial, ⟨trivial, trivial⟩⟩
      · refine TS.cond (decide (v < (128 : Int))) ?_ (fun e => by rw [c6] at e; cases e) (fun e => ?_)
        · kernel_rfl
        refine TS.seq ?_
        rcases bif_some h with ⟨c7, h⟩ | ⟨c8, h⟩
        · have hq : (True) ∧ ((True) ∧ (((True) ∧ (decide (v ≥ (-32768 : Int))) = true) ∧ ((True) ∧ ((True) ∧ ((True) ∧ ((True) ∧ (True))))))) := ⟨trivial, ⟨trivial, ⟨⟨trivial, c7⟩, ⟨trivial, ⟨trivial, ⟨trivial, ⟨trivial, trivial⟩⟩⟩⟩⟩⟩⟩
          refine TS.reg [.none, .none, .dec true] ?_ ?_
          · apply prop_of ?_ hq
            kernel_rfl
          refine XS.then ?_
          rcases bif_some h with ⟨c9, h⟩ | ⟨c10, h⟩
          · refine TS.cond (decide (v < (32768 : Int))) ?_ (fun e => ?_) (fun e => by rw [c9] at e; cases e)
            · kernel_rfl
            refine TS.seq ?_
            have hq : (True) ∧ ((True) ∧ (True)) := ⟨trivial, ⟨trivial, trivial⟩⟩
            refine TS.reg [] ?_ ?_
            · apply prop_of ?_ hq
              kernel_rfl
            refine XS.then ?_
            refine TS.ret ?_
            refine XS.blockRet ?_
            refine XS.passR ?_
            obtain rfl : ((2 : Int), (2 : Int)) = r := Option.some.inj h
            exact XS.fin [] ((True) ∧ ((True) ∧ (True))) (by kernel_rfl) ⟨trivial, ⟨trivial, trivial⟩⟩
          · refine TS.cond (decide (v < (32768 : Int))) ?_ (fun e => by rw [c10] at e; cases e) (fun e => ?_)
            · kernel_rfl
            refine TS.skip ?_
            refine XS.blockEnd ?_
            refine XS.then ?_
            refine TS.seq ?_
            have hq : (True) ∧ ((True) ∧ (True)) := ⟨trivial, ⟨trivial, trivial⟩⟩
            refine TS.reg [] ?_ ?_
            · apply prop_of ?_ hq
              kernel_rfl
            refine XS.then ?_
            refine TS.ret ?_
            obtain rfl : ((3 : Int), (4 : Int)) = r := Option.some.inj h
            exact XS.fin [] ((True) ∧ ((True) ∧ (True))) (by kernel_rfl) ⟨trivial, ⟨trivial, trivial⟩⟩
        · have hq : (True) ∧ ((True) ∧ (((True) ∧ (decide (v ≥ (-32768 : Int))) = false) ∧ ((True) ∧ ((True) ∧ (True))))) := ⟨trivial, ⟨trivial, ⟨⟨trivial, c8⟩, ⟨trivial, ⟨trivial, trivial⟩⟩⟩⟩⟩
          refine TS.reg [.none, .none, .dec false] ?_ ?_
          · apply prop_of ?_ hq
            kernel_rfl
          refine XS.then ?_
          refine TS.no ?_ ?_
          · kernel_rfl
          refine TS.skip ?_
          refine XS.blockEnd ?_
          refine XS.then ?_
          refine TS.seq ?_
          have hq : (True) ∧ ((True) ∧ (True)) := ⟨trivial, ⟨trivial, trivial⟩⟩
          refine TS.reg [] ?_ ?_
          · apply prop_of ?_ hq
            kernel_rfl
          refine XS.then ?_
          refine TS.ret ?_
          obtain rfl : ((3 : Int), (4 : Int)) = r := Option.some.inj h
          exact XS.fin [] ((True) ∧ ((True) ∧ (True))) (by kernel_rfl) ⟨trivial, ⟨trivial, trivial⟩⟩
    · have hq : (True) ∧ ((True) ∧ (((True) ∧ (decide (v ≥ (-128 : Int))) = false) ∧ ((True) ∧ ((True) ∧ (True))))) := ⟨trivial, ⟨trivial, ⟨⟨trivial, c4⟩, ⟨trivial, ⟨trivial, trivial⟩⟩⟩⟩⟩
      refine TS.reg [.none, .none, .dec false] ?_ ?_
      · apply prop_of ?_ hq
        kernel_rfl
      refine XS.then ?_
      refine TS.no ?_ ?_
      · kernel_rfl
      refine TS.seq ?_
      rcases bif_some h with ⟨c11, h⟩ | ⟨c12, h⟩
      · have hq : (True) ∧ ((True) ∧ (((True) ∧ (decide (v ≥ (-32768 : Int))) = true) ∧ ((True) ∧ ((True) ∧ ((True) ∧ ((True) ∧ (True))))))) := ⟨trivial, ⟨trivial, ⟨⟨trivial, c11⟩, ⟨trivial, ⟨trivial, ⟨trivial, ⟨trivial, trivial⟩⟩⟩⟩⟩⟩⟩
        refine TS.reg [.none, .none, .dec true] ?_ ?_
        · apply prop_of ?_ hq
          kernel_rfl
        refine XS.then ?_
        rcases bif_some h with ⟨c13, h⟩ | ⟨c14, h⟩
        · refine TS.cond (decide (v < (32768 : Int))) ?_ (fun e => ?_) (fun e => by rw [c13] at e; cases e)
          · kernel_rfl
          refine TS.seq ?_
          have hq : (True) ∧ ((True) ∧ (True)) := ⟨trivial, ⟨trivial, trivial⟩⟩
          refine TS.reg [] ?_ ?_
          · apply prop_of ?_ hq
            kernel_rfl
          refine XS.then ?_
          refine TS.ret ?_
          refine XS.blockRet ?_
          refine XS.passR ?_
          obtain rfl : ((2 : Int), (2 : Int)) = r := Option.some.inj h
          exact XS.fin [] ((True) ∧ ((True) ∧ (True))) (by kernel_rfl) ⟨trivial, ⟨trivial, trivial⟩⟩
        · refine TS.cond (decide (v < (32768 : Int))) ?_ (fun e => by rw [c14] at e; cases e) (fun e => ?_)
          · kernel_rfl
          refine TS.skip ?_
          refine XS.blockEnd ?_
          refine XS.then ?_
          refine TS.seq ?_
          have hq : (True) ∧ ((True) ∧ (True)) := ⟨trivial, ⟨trivial, trivial⟩⟩
          refine TS.reg [] ?_ ?_
          · apply prop_of ?_ hq
            kernel_rfl
          refine XS.then ?_
          refine TS.ret ?_
          obtain rfl : ((3 : Int), (4 : Int)) = r := Option.some.inj h
          exact XS.fin [] ((True) ∧ ((True) ∧ (True))) (by kernel_rfl) ⟨trivial, ⟨trivial, trivial⟩⟩
      · have hq : (True) ∧ ((True) ∧ (((True) ∧ (decide (v ≥ (-32768 : Int))) = false) ∧ ((True) ∧ ((True) ∧ (True))))) := ⟨trivial, ⟨trivial, ⟨⟨trivial, c12⟩, ⟨trivial, ⟨trivial, trivial⟩⟩⟩⟩⟩
        refine TS.reg [.none, .none, .dec false] ?_ ?_
        · apply prop_of ?_ hq
          kernel_rfl
        refine XS.then ?_
        refine TS.no ?_ ?_
        · kernel_rfl
        refine TS.skip ?_
        refine XS.blockEnd ?_
        refine XS.then ?_
        refine TS.seq ?_
        have hq : (True) ∧ ((True) ∧ (True)) := ⟨trivial, ⟨trivial, trivial⟩⟩
        refine TS.reg [] ?_ ?_
        · apply prop_of ?_ hq
          kernel_rfl
        refine XS.then ?_
        refine TS.ret ?_
        obtain rfl : ((3 : Int), (4 : Int)) = r := Option.some.inj h
        exact XS.fin [] ((True) ∧ ((True) ∧ (True))) (by kernel_rfl) ⟨trivial, ⟨trivial, trivial⟩⟩

/-! plugtree/report.Write -/
def F43_l14 (n : Nat) (k43_12 : (Int × (List Int)) → Option ((List UInt8) × Int)) (l : List (Int × Int)) (x : Int) (y_3 : Int × Int) (k43_14 : (Int × (List Int)) → Option ((List UInt8) × Int)) : (Int × (List Int)) → Option ((List UInt8) × Int)
  | (x_3, m0_2) => (bif (decide (x_3 < y_3.2)) then (bif (decide (0 ≤ (IntKind.wrap .u64 ((IntKind.wrap .i64 ((8 : Int) * x_3)))))) then (bif (decide (m0_2.length + [(IntKind.wrap .u8 ((shrI .i64 ((l.getD x.toNat ((0 : Int), (0 : Int))).2) (IntKind.wrap .u64 ((IntKind.wrap .i64 ((8 : Int) * x_3)))))))].length ≤ 17179869184)) then (k43_14 ((IntKind.wrap .i64 (x_3 + (1 : Int))), (m0_2 ++ [(IntKind.wrap .u8 ((shrI .i64 ((l.getD x.toNat ((0 : Int), (0 : Int))).2) (IntKind.wrap .u64 ((IntKind.wrap .i64 ((8 : Int) * x_3)))))))]))) else none) else none) else (k43_12 ((IntKind.wrap .i64 (x + (1 : Int))), m0_2)))
def F43_j13 (n : Nat) (k43_12 : (Int × (List Int)) → Option ((List UInt8) × Int)) (l : List (Int × Int)) (x : Int) (m0 : List Int) : Bool → Option ((List UInt8) × Int)
  | x_2 => (bif x_2 then (some (([] : List UInt8), (1 : Int))) else ((F94 n ((l.getD x.toNat ((0 : Int), (0 : Int))).2)).bind fun y_3 => (bif (decide (m0.length + [(IntKind.wrap .u8 ((bitsI .or .i64 (shlI .i64 ((l.getD x.toNat ((0 : Int), (0 : Int))).1) (2 : Int)) y_3.1)))].length ≤ 17179869184)) then (loopF (F43_l14 n k43_12 l x y_3) n ((0 : Int), (m0 ++ [(IntKind.wrap .u8 ((bitsI .or .i64 (shlI .i64 ((l.getD x.toNat ((0 : Int), (0 : Int))).1) (2 : Int)) y_3.1)))]))) else none)))
def F43_l12 (n : Nat) (l : List (Int × Int)) (k43_12 : (Int × (List Int)) → Option ((List UInt8) × Int)) : (Int × (List Int)) → Option ((List UInt8) × Int)
  | (x, m0) => (bif (decide (x < ((l.length : Nat) : Int))) then (bif inb x l.length then (bif (decide ((l.getD x.toNat ((0 : Int), (0 : Int))).1 < (0 : Int))) then (F43_j13 n k43_12 l x m0 true) else (bif (decide ((l.getD x.toNat ((0 : Int), (0 : Int))).1 > (63 : Int))) then (F43_j13 n k43_12 l x m0 true) else (bif (decide ((l.getD x.toNat ((0 : Int), (0 : Int))).2 < (-2147483648 : Int))) then (F43_j13 n k43_12 l x m0 true) else (F43_j13 n k43_12 l x m0 (decide ((l.getD x.toNat ((0 : Int), (0 : Int))).2 ≥ (2147483648 : Int))))))) else none) else (bif (decide (((m0.length : Nat) : Int) > (512 : Int))) then (some (([] : List UInt8), (2 : Int))) else (some ((strOf m0), (0 : Int)))))
def F43 (n : Nat) (l : List (Int × Int)) : Option ((List UInt8) × Int) := (bif (decide (((l.length : Nat) : Int) > (200 : Int))) then (some (([] : List UInt8), (2 : Int))) else (loopF (F43_l12 n l) n ((0 : Int), ([] : List Int))))
theorem F43_ok (n : Nat) (l : List (Int × Int)) (r : (List UInt8) × Int) (h : F43 n l = some r) : PureC Try.prog 43 [(.sl (.st (.pair (.int .i64) (.int .i64))) l)] (.tup (.cons (.str r.1) (.cons (.int .i64 r.2) .nil))) [] := by
  refine PureC.mkS Try.func43 rfl rfl ?_
  intro w0 fz0 hfz
  replace h : (bif (decide (((l.length : Nat) : Int) > (200 : Int))) then (some (([] : List UInt8), (2 : Int))) else (loopF (F43_l12 n l) n ((0 : Int), ([] : List Int)))) = some r := h
  refine TS.seq ?_
  have hq : (True) ∧ ((True) ∧ (True)) := ⟨trivial, ⟨trivial, trivial⟩⟩
  refine TS.reg [] ?_ ?_
  · apply prop_of ?_ hq
    kernel_rfl
  refine XS.then ?_
  refine TS.seq ?_
  refine TS.seq ?_
  have hq : (True) ∧ ((True) ∧ ((True) ∧ (True))) := ⟨trivial, ⟨trivial, ⟨trivial, trivial⟩⟩⟩
  refine TS.reg [] ?_ ?_
  · apply prop_of ?_ hq
    kernel_rfl
  refine XS.then ?_
  rcases bif_some h with ⟨c1, h⟩ | ⟨c2, h⟩
  · refine TS.cond (decide (((l.length : Nat) : Int) > (200 : Int))) ?_ (fun e => ?_) (fun e => by rw [c1] at e; cases e)
    · kernel_rfl
    refine TS.seq ?_
    have hq : (True) ∧ ((True) ∧ (True)) := ⟨trivial, ⟨trivial, trivial⟩⟩
    refine TS.reg [] ?_ ?_
    · apply prop_of ?_ hq
      kernel_rfl
    refine XS.then ?_
    refine TS.ret ?_
    refine XS.passR ?_
    obtain rfl : (([] : List UInt8), (2 : Int)) = r := Option.some.inj h
    exact XS.fin [] ((True) ∧ ((True) ∧ (True))) (by kernel_rfl) ⟨trivial, ⟨trivial, trivial⟩⟩
  · refine TS.cond (decide (((l.length : Nat) : Int) > (200 : Int))) ?_ (fun e => by rw [c2] at e; cases e) (fun e => ?_)
    · kernel_rfl
    refine TS.skip ?_
    refine XS.then ?_
    refine TS.seq ?_
    have hq : (True) ∧ (True) := ⟨trivial, trivial⟩
    refine TS.reg [] ?_ ?_
    · apply prop_of ?_ hq
      kernel_rfl
    refine XS.then ?_
    refine TS.seq ?_
    refine TS.seq ?_
    have hq : (True) ∧ ((True) ∧ ((True) ∧ (True))) := ⟨trivial, ⟨trivial, ⟨trivial, trivial⟩⟩⟩
    refine TS.reg [] ?_ ?_
    · apply prop_of ?_ hq
      kernel_rfl
    refine XS.then ?_
    refine TS.block ?_
    refine TS.wk (.row false 4 [] 5 (.int .u8)) ?_
    refine TS.reLoop [0] (mkMask 73 [4, 13, 14, 15]) (D := Int × (List Int)) (fun d => match d with | (x, m0) => (mkTs 73 [(4, (.row 0)), (13, (.sl (.st (.pair (.int .i64) (.int .i64))) l)), (14, (.int .i64 ((l.length : Nat) : Int))), (15, (.int .i64 x))], [(.row 5 (.int .u8) m0)])) (fun n' d => loopF (F43_l12 n l) n' d = some r) n ((0 : Int), ([] : List Int)) h ?_ (fun d => loopF_zero _ d r) ?_
    · kernel_rfl
    · rintro n12 ⟨x, m0⟩ h
      replace h : (bif (decide (x < ((l.length : Nat) : Int))) then (bif inb x l.length then (bif (decide ((l.getD x.toNat ((0 : Int), (0 : Int))).1 < (0 : Int))) then (F43_j13 n (loopF (F43_l12 n l) n12) l x m0 true) else (bif (decide ((l.getD x.toNat ((0 : Int), (0 : Int))).1 > (63 : Int))) then (F43_j13 n (loopF (F43_l12 n l) n12) l x m0 true) else (bif (decide ((l.getD x.toNat ((0 : Int), (0 : Int))).2 < (-2147483648 : Int))) then (F43_j13 n (loopF (F43_l12 n l) n12) l x m0 true) else (F43_j13 n (loopF (F43_l12 n l) n12) l x m0 (decide ((l.getD x.toNat ((0 : Int), (0 : Int))).2 ≥ (2147483648 : Int))))))) else none) else (bif (decide (((m0.length : Nat) : Int) > (512 : Int))) then (some (([] : List UInt8), (2 : Int))) else (some ((strOf m0), (0 : Int))))) = some r := h
      refine TS.seq ?_
      have hq : (True) ∧ (True) := ⟨trivial, trivial⟩
      refine TS.reg [] ?_ ?_
      · apply prop_of ?_ hq
        kernel_rfl
      refine XS.then ?_
      refine TS.seq ?_
      rcases bif_some h with ⟨c3, h⟩ | ⟨c4, h⟩
      · refine TS.cond (decide (x < ((l.length : Nat) : Int))) ?_ (fun e => ?_) (fun e => by rw [c3] at e; cases e)
        · kernel_rfl
        refine TS.skip ?_
        refine XS.then ?_
        refine TS.seq ?_
        refine TS.block ?_
        refine TS.seq ?_
        obtain ⟨t5, h⟩ := test_some h
        have hq : (inR x l.length) ∧ ((True) ∧ ((True) ∧ ((True) ∧ (True)))) := ⟨inb_ok t5, ⟨trivial, ⟨trivial, ⟨trivial, trivial⟩⟩⟩⟩
        refine TS.reg [] ?_ ?_
        · apply prop_of ?_ hq
          kernel_rfl
        refine XS.then ?_
        refine TS.seq ?_
        refine TS.seq ?_
        refine TS.cut (D := Bool) (fun d => match d with | x_2 => (mkTs 73 [(4, (.row 0)), (6, (.ptr 1 [])), (13, (.sl (.st (.pair (.int .i64) (.int .i64))) l)), (14, (.int .i64 ((l.length : Nat) : Int))), (15, (.int .i64 x)), (36, (.bool x_2))], [(.row 5 (.int .u8) m0), (.box 64 (.st (.cons (.int .i64 (l.getD x.toNat ((0 : Int), (0 : Int))).1) (.int .i64 (l.getD x.toNat ((0 : Int), (0 : Int))).2))))])) (fun d => F43_j13 n (loopF (F43_l12 n l) n12) l x m0 d = some r) ?_ ?_
        · rintro x_2 h
          replace h : (bif x_2 then (some (([] : List UInt8), (1 : Int))) else ((F94 n ((l.getD x.toNat ((0 : Int), (0 : Int))).2)).bind fun y_3 => (bif (decide (m0.length + [(IntKind.wrap .u8 ((bitsI .or .i64 (shlI .i64 ((l.getD x.toNat ((0 : Int), (0 : Int))).1) (2 : Int)) y_3.1)))].length ≤ 17179869184)) then (loopF (F43_l14 n (loopF (F43_l12 n l) n12) l x y_3) n ((0 : Int), (m0 ++ [(IntKind.wrap .u8 ((bitsI .or .i64 (shlI .i64 ((l.getD x.toNat ((0 : Int), (0 : Int))).1) (2 : Int)) y_3.1)))]))) else none))) = some r := h
          refine XS.then ?_
          rcases bif_some h with ⟨c6, h⟩ | ⟨c7, h⟩
          · refine TS.cond x_2 ?_ (fun e => ?_) (fun e => by rw [c6] at e; cases e)
            · kernel_rfl
            refine TS.seq ?_
            have hq : (True) ∧ ((True) ∧ (True)) := ⟨trivial, ⟨trivial, trivial⟩⟩
            refine TS.reg [] ?_ ?_
            · apply prop_of ?_ hq
              kernel_rfl
            refine XS.then ?_
            refine TS.ret ?_
            refine XS.passR ?_
            refine XS.blockRet ?_
            refine XS.passR ?_
            refine XS.passR ?_
            refine XS.blockRet ?_
            refine XS.passR ?_
            obtain rfl : (([] : List UInt8), (1 : Int)) = r := Option.some.inj h
            exact XS.fin [] ((True) ∧ ((True) ∧ (True))) (by kernel_rfl) ⟨trivial, ⟨trivial, trivial⟩⟩
          · refine TS.cond x_2 ?_ (fun e => by rw [c7] at e; cases e) (fun e => ?_)
            · kernel_rfl
            refine TS.skip ?_
            refine XS.then ?_
            refine TS.seq ?_
            obtain ⟨y_3, hx8, h⟩ := bind_some' h
            have hq : (True) ∧ ((True) ∧ ((PureC Try.prog 94 [(.int .i64 (l.getD x.toNat ((0 : Int), (0 : Int))).2)] (.tup (.cons (.int .i64 y_3.1) (.cons (.int .i64 y_3.2) .nil))) []) ∧ ((True) ∧ ((True) ∧ ((True) ∧ ((True) ∧ ((True) ∧ (True)))))))) := ⟨trivial, ⟨trivial, ⟨F94_ok n ((l.getD x.toNat ((0 : Int), (0 : Int))).2) y_3 hx8, ⟨trivial, ⟨trivial, ⟨trivial, ⟨trivial, ⟨trivial, trivial⟩⟩⟩⟩⟩⟩⟩⟩
            refine TS.reg [.none, .none, (.call (.tup (.cons (.int .i64 y_3.1) (.cons (.int .i64 y_3.2) .nil))) [])] ?_ ?_
            · apply prop_of ?_ hq
              kernel_rfl
            refine XS.then ?_
            refine TS.seq ?_
            obtain ⟨t9, h⟩ := test_some h
            have hq : (True) ∧ ((True) ∧ ((True) ∧ ((0 ≤ (2 : Int)) ∧ ((True) ∧ ((True) ∧ ((True) ∧ (((0 < 1 ∧ True) ∧ (True)) ∧ ((m0.length + [(IntKind.wrap .u8 ((bitsI .or .i64 (shlI .i64 ((l.getD x.toNat ((0 : Int), (0 : Int))).1) (2 : Int)) y_3.1)))].length ≤ 17179869184) ∧ ((True) ∧ (True)))))))))) := ⟨trivial, ⟨trivial, ⟨trivial, ⟨by decide, ⟨trivial, ⟨trivial, ⟨trivial, ⟨⟨⟨by decide, trivial⟩, trivial⟩, ⟨of_decide_eq_true t9, ⟨trivial, trivial⟩⟩⟩⟩⟩⟩⟩⟩⟩⟩
            refine TS.reg [] ?_ ?_
            · apply prop_of ?_ hq
              kernel_rfl
            refine XS.then ?_
            refine TS.seq ?_
            have hq : (True) ∧ ((True) ∧ (True)) := ⟨trivial, ⟨trivial, trivial⟩⟩
            refine TS.reg [] ?_ ?_
            · apply prop_of ?_ hq
              kernel_rfl
            refine XS.then ?_
            refine TS.block ?_
            refine TS.reLoop [3, 1] (mkMask 73 [4, 6, 13, 14, 15, 52, 53]) (D := Int × (List Int)) (fun d => match d with | (x_3, m0_2) => (mkTs 73 [(4, (.row 0)), (6, (.ptr 1 [])), (13, (.sl (.st (.pair (.int .i64) (.int .i64))) l)), (14, (.int .i64 ((l.length : Nat) : Int))), (15, (.int .i64 x)), (52, (.int .i64 y_3.2)), (53, (.int .i64 x_3))], [(.row 5 (.int .u8) m0_2), (.box 64 (.st (.cons (.int .i64 (l.getD x.toNat ((0 : Int), (0 : Int))).1) (.int .i64 (l.getD x.toNat ((0 : Int), (0 : Int))).2))))])) (fun n' d => loopF (F43_l14 n (loopF (F43_l12 n l) n12) l x y_3) n' d = some r) n ((0 : Int), (m0 ++ [(IntKind.wrap .u8 ((bitsI .or .i64 (shlI .i64 ((l.getD x.toNat ((0 : Int), (0 : Int))).1) (2 : Int)) y_3.1)))])) h ?_ (fun d => loopF_zero _ d r) ?_
            · kernel_rfl
            · rintro n14 ⟨x_3, m0_2⟩ h
              replace h : (bif (decide (x_3 < y_3.2)) then (bif (decide (0 ≤ (IntKind.wrap .u64 ((IntKind.wrap .i64 ((8 : Int) * x_3)))))) then (bif (decide (m0_2.length + [(IntKind.wrap .u8 ((shrI .i64 ((l.getD x.toNat ((0 : Int), (0 : Int))).2) (IntKind.wrap .u64 ((IntKind.wrap .i64 ((8 : Int) * x_3)))))))].length ≤ 17179869184)) then ((loopF (F43_l14 n (loopF (F43_l12 n l) n12) l x y_3) n14) ((IntKind.wrap .i64 (x_3 + (1 : Int))), (m0_2 ++ [(IntKind.wrap .u8 ((shrI .i64 ((l.getD x.toNat ((0 : Int), (0 : Int))).2) (IntKind.wrap .u64 ((IntKind.wrap .i64 ((8 : Int) * x_3)))))))]))) else none) else none) else ((loopF (F43_l12 n l) n12) ((IntKind.wrap .i64 (x + (1 : Int))), m0_2))) = some r := h
              refine TS.seq ?_
              have hq : (True) ∧ (True) := ⟨trivial, trivial⟩
              refine TS.reg [] ?_ ?_
              · apply prop_of ?_ hq
                kernel_rfl
              refine XS.then ?_
              refine TS.seq ?_
              rcases bif_some h with ⟨c10, h⟩ | ⟨c11, h⟩
              · refine TS.cond (decide (x_3 < y_3.2)) ?_ (fun e => ?_) (fun e => by rw [c10] at e; cases e)
                · kernel_rfl
                refine TS.skip ?_
                refine XS.then ?_
                refine TS.seq ?_
                refine TS.block ?_
                refine TS.seq ?_
                have hq : (True) ∧ ((True) ∧ (True)) := ⟨trivial, ⟨trivial, trivial⟩⟩
                refine TS.reg [] ?_ ?_
                · apply prop_of ?_ hq
                  kernel_rfl
                refine XS.then ?_
                obtain ⟨t12, h⟩ := test_some h
                obtain ⟨t13, h⟩ := test_some h
                have hq : (True) ∧ ((True) ∧ ((True) ∧ ((True) ∧ ((True) ∧ ((True) ∧ ((0 ≤ (IntKind.wrap .u64 ((IntKind.wrap .i64 ((8 : Int) * x_3))))) ∧ ((True) ∧ (((0 < 1 ∧ True) ∧ (True)) ∧ ((m0_2.length + [(IntKind.wrap .u8 ((shrI .i64 ((l.getD x.toNat ((0 : Int), (0 : Int))).2) (IntKind.wrap .u64 ((IntKind.wrap .i64 ((8 : Int) * x_3)))))))].length ≤ 17179869184) ∧ ((True) ∧ (True))))))))))) := ⟨trivial, ⟨trivial, ⟨trivial, ⟨trivial, ⟨trivial, ⟨trivial, ⟨of_decide_eq_true t12, ⟨trivial, ⟨⟨⟨by decide, trivial⟩, trivial⟩, ⟨of_decide_eq_true t13, ⟨trivial, trivial⟩⟩⟩⟩⟩⟩⟩⟩⟩⟩⟩
                refine TS.reg [] ?_ ?_
                · apply prop_of ?_ hq
                  kernel_rfl
                refine XS.blockEnd ?_
                refine XS.then ?_
                have hq : (True) ∧ ((True) ∧ (True)) := ⟨trivial, ⟨trivial, trivial⟩⟩
                refine TS.reg [] ?_ ?_
                · apply prop_of ?_ hq
                  kernel_rfl
                refine XS.reAny [3, 1] (mkMask 73 [4, 6, 13, 14, 15, 52, 53]) ((IntKind.wrap .i64 (x_3 + (1 : Int))), (m0_2 ++ [(IntKind.wrap .u8 ((shrI .i64 ((l.getD x.toNat ((0 : Int), (0 : Int))).2) (IntKind.wrap .u64 ((IntKind.wrap .i64 ((8 : Int) * x_3)))))))])) h ?_
                kernel_rfl
              · refine TS.cond (decide (x_3 < y_3.2)) ?_ (fun e => by rw [c11] at e; cases e) (fun e => ?_)
                · kernel_rfl
                refine TS.exit ?_
                refine XS.passE ?_
                refine XS.passE ?_
                refine XS.out ?_
                refine XS.blockEnd ?_
                refine XS.then ?_
                have hq : (True) ∧ ((True) ∧ (True)) := ⟨trivial, ⟨trivial, trivial⟩⟩
                refine TS.reg [] ?_ ?_
                · apply prop_of ?_ hq
                  kernel_rfl
                refine XS.reAny [0] (mkMask 73 [4, 13, 14, 15]) ((IntKind.wrap .i64 (x + (1 : Int))), m0_2) h ?_
                kernel_rfl
        · rcases bif_some h with ⟨c14, h⟩ | ⟨c15, h⟩
          · have hq : (True) ∧ ((True) ∧ ((True) ∧ (((True) ∧ (decide ((l.getD x.toNat ((0 : Int), (0 : Int))).1 < (0 : Int))) = true) ∧ ((True) ∧ ((True) ∧ ((True) ∧ ((True) ∧ ((True) ∧ (True))))))))) := ⟨trivial, ⟨trivial, ⟨trivial, ⟨⟨trivial, c14⟩, ⟨trivial, ⟨trivial, ⟨trivial, ⟨trivial, ⟨trivial, trivial⟩⟩⟩⟩⟩⟩⟩⟩⟩
            refine TS.reg [.none, .none, .none, .dec true] ?_ ?_
            · apply prop_of ?_ hq
              kernel_rfl
            refine XS.reAny [0, 1] (mkMask 73 [4, 6, 13, 14, 15, 36]) true h ?_
            kernel_rfl
          · rcases bif_some h with ⟨c16, h⟩ | ⟨c17, h⟩
            · have hq : (True) ∧ ((True) ∧ ((True) ∧ (((True) ∧ (decide ((l.getD x.toNat ((0 : Int), (0 : Int))).1 < (0 : Int))) = false) ∧ ((True) ∧ ((True) ∧ ((True) ∧ ((True) ∧ (((True) ∧ (decide ((l.getD x.toNat ((0 : Int), (0 : Int))).1 > (63 : Int))) = true) ∧ ((True) ∧ ((True) ∧ ((True) ∧ (True)))))))))))) := ⟨trivial, ⟨trivial, ⟨trivial, ⟨⟨trivial, c15⟩, ⟨trivial, ⟨trivial, ⟨trivial, ⟨trivial, ⟨⟨trivial, c16⟩, ⟨trivial, ⟨trivial, ⟨trivial, trivial⟩⟩⟩⟩⟩⟩⟩⟩⟩⟩⟩⟩
              refine TS.reg [.none, .none, .none, .dec false, .none, .none, .none, .none, .dec true] ?_ ?_
              · apply prop_of ?_ hq
                kernel_rfl
              refine XS.reAny [0, 1] (mkMask 73 [4, 6, 13, 14, 15, 36]) true h ?_
              kernel_rfl
            · rcases bif_some h with ⟨c18, h⟩ | ⟨c19, h⟩
              · have hq : (True) ∧ ((True) ∧ ((True) ∧ (((True) ∧ (decide ((l.getD x.toNat ((0 : Int), (0 : Int))).1 < (0 : Int))) = false) ∧ ((True) ∧ ((True) ∧ ((True) ∧ ((True) ∧ (((True) ∧ (decide ((l.getD x.toNat ((0 : Int), (0 : Int))).1 > (63 : Int))) = false) ∧ ((True) ∧ ((True) ∧ ((True) ∧ ((True) ∧ (((True) ∧ (decide ((l.getD x.toNat ((0 : Int), (0 : Int))).2 < (-2147483648 : Int))) = true) ∧ ((True) ∧ (True))))))))))))))) := ⟨trivial, ⟨trivial, ⟨trivial, ⟨⟨trivial, c15⟩, ⟨trivial, ⟨trivial, ⟨trivial, ⟨trivial, ⟨⟨trivial, c17⟩, ⟨trivial, ⟨trivial, ⟨trivial, ⟨trivial, ⟨⟨trivial, c18⟩, ⟨trivial, trivial⟩⟩⟩⟩⟩⟩⟩⟩⟩⟩⟩⟩⟩⟩⟩
                refine TS.reg [.none, .none, .none, .dec false, .none, .none, .none, .none, .dec false, .none, .none, .none, .none, .dec true] ?_ ?_
                · apply prop_of ?_ hq
                  kernel_rfl
                refine XS.reAny [0, 1] (mkMask 73 [4, 6, 13, 14, 15, 36]) true h ?_
                kernel_rfl
              · have hq : (True) ∧ ((True) ∧ ((True) ∧ (((True) ∧ (decide ((l.getD x.toNat ((0 : Int), (0 : Int))).1 < (0 : Int))) = false) ∧ ((True) ∧ ((True) ∧ ((True) ∧ ((True) ∧ (((True) ∧ (decide ((l.getD x.toNat ((0 : Int), (0 : Int))).1 > (63 : Int))) = false) ∧ ((True) ∧ ((True) ∧ ((True) ∧ ((True) ∧ (((True) ∧ (decide ((l.getD x.toNat ((0 : Int), (0 : Int))).2 < (-2147483648 : Int))) = false) ∧ ((True) ∧ ((True) ∧ ((True) ∧ ((True) ∧ (True)))))))))))))))))) := ⟨trivial, ⟨trivial, ⟨trivial, ⟨⟨trivial, c15⟩, ⟨trivial, ⟨trivial, ⟨trivial, ⟨trivial, ⟨⟨trivial, c17⟩, ⟨trivial, ⟨trivial, ⟨trivial, ⟨trivial, ⟨⟨trivial, c19⟩, ⟨trivial, ⟨trivial, ⟨trivial, ⟨trivial, trivial⟩⟩⟩⟩⟩⟩⟩⟩⟩⟩⟩⟩⟩⟩⟩⟩⟩⟩
                refine TS.reg [.none, .none, .none, .dec false, .none, .none, .none, .none, .dec false, .none, .none, .none, .none, .dec false] ?_ ?_
                · apply prop_of ?_ hq
                  kernel_rfl
                refine XS.reAny [0, 1] (mkMask 73 [4, 6, 13, 14, 15, 36]) (decide ((l.getD x.toNat ((0 : Int), (0 : Int))).2 ≥ (2147483648 : Int))) h ?_
                kernel_rfl
      · refine TS.cond (decide (x < ((l.length : Nat) : Int))) ?_ (fun e => by rw [c4] at e; cases e) (fun e => ?_)
        · kernel_rfl
        refine TS.exit ?_
        refine XS.passE ?_
        refine XS.passE ?_
        refine XS.out ?_
        refine XS.then ?_
        refine TS.seq ?_
        refine TS.seq ?_
        have hq : (True) ∧ ((True) ∧ ((True) ∧ (True))) := ⟨trivial, ⟨trivial, ⟨trivial, trivial⟩⟩⟩
        refine TS.reg [] ?_ ?_
        · apply prop_of ?_ hq
          kernel_rfl
        refine XS.then ?_
        rcases bif_some h with ⟨c20, h⟩ | ⟨c21, h⟩
        · refine TS.cond (decide (((m0.length : Nat) : Int) > (512 : Int))) ?_ (fun e => ?_) (fun e => by rw [c20] at e; cases e)
          · kernel_rfl
          refine TS.seq ?_
          have hq : (True) ∧ ((True) ∧ (True)) := ⟨trivial, ⟨trivial, trivial⟩⟩
          refine TS.reg [] ?_ ?_
          · apply prop_of ?_ hq
            kernel_rfl
          refine XS.then ?_
          refine TS.ret ?_
          refine XS.passR ?_
          obtain rfl : (([] : List UInt8), (2 : Int)) = r := Option.some.inj h
          exact XS.fin [] ((True) ∧ ((True) ∧ (True))) (by kernel_rfl) ⟨trivial, ⟨trivial, trivial⟩⟩
        · refine TS.cond (decide (((m0.length : Nat) : Int) > (512 : Int))) ?_ (fun e => by rw [c21] at e; cases e) (fun e => ?_)
          · kernel_rfl
          refine TS.skip ?_
          refine XS.then ?_
          refine TS.seq ?_
          have hq : (True) ∧ ((True) ∧ ((True) ∧ ((True) ∧ (True)))) := ⟨trivial, ⟨trivial, ⟨trivial, ⟨trivial, trivial⟩⟩⟩⟩
          refine TS.reg [] ?_ ?_
          · apply prop_of ?_ hq
            kernel_rfl
          refine XS.then ?_
          refine TS.ret ?_
          obtain rfl : ((strOf m0), (0 : Int)) = r := Option.some.inj h
          exact XS.fin [] ((True) ∧ ((True) ∧ (True))) (by kernel_rfl) ⟨trivial, ⟨trivial, trivial⟩⟩

/-! plugtree/plugref.Between -/
def F16 (n : Nat) (vn : Int) (low : Int) (high : Int) : Option Bool := (bif (decide (low ≤ vn)) then (some (decide (vn ≤ high))) else (some false))
theorem F16_ok (n : Nat) (vn : Int) (low : Int) (high : Int) (r : Bool) (h : F16 n vn low high = some r) : PureC Try.prog 16 [(.int .i64 vn), (.int .i64 low), (.int .i64 high)] (.bool r) [] := by
  refine PureC.mkS Try.func16 rfl rfl ?_
  intro w0 fz0 hfz
  replace h : (bif (decide (low ≤ vn)) then (some (decide (vn ≤ high))) else (some false)) = some r := h
  refine TS.seq ?_
  have hq : (True) ∧ (True) := ⟨trivial, trivial⟩
  refine TS.reg [] ?_ ?_
  · apply prop_of ?_ hq
    kernel_rfl
  refine XS.then ?_
  refine TS.seq ?_
  rcases bif_some h with ⟨c1, h⟩ | ⟨c2, h⟩
  · have hq : (True) ∧ ((True) ∧ ((True) ∧ (((True) ∧ (decide (low ≤ vn)) = true) ∧ ((True) ∧ ((True) ∧ ((True) ∧ ((True) ∧ ((True) ∧ (True))))))))) := ⟨trivial, ⟨trivial, ⟨trivial, ⟨⟨trivial, c1⟩, ⟨trivial, ⟨trivial, ⟨trivial, ⟨trivial, ⟨trivial, trivial⟩⟩⟩⟩⟩⟩⟩⟩⟩
    refine TS.reg [.none, .none, .none, .dec true] ?_ ?_
    · apply prop_of ?_ hq
      kernel_rfl
    refine XS.then ?_
    refine TS.ret ?_
    obtain rfl : (decide (vn ≤ high)) = r := Option.some.inj h
    exact XS.fin [] ((True) ∧ (True)) (by kernel_rfl) ⟨trivial, trivial⟩
  · have hq : (True) ∧ ((True) ∧ ((True) ∧ (((True) ∧ (decide (low ≤ vn)) = false) ∧ ((True) ∧ ((True) ∧ (True)))))) := ⟨trivial, ⟨trivial, ⟨trivial, ⟨⟨trivial, c2⟩, ⟨trivial, ⟨trivial, trivial⟩⟩⟩⟩⟩⟩
    refine TS.reg [.none, .none, .none, .dec false] ?_ ?_
    · apply prop_of ?_ hq
      kernel_rfl
    refine XS.then ?_
    refine TS.ret ?_
    obtain rfl : false = r := Option.some.inj h
    exact XS.fin [] ((True) ∧ (True)) (by kernel_rfl) ⟨trivial, trivial⟩

/-! plugtree/plugref.TwoBytes -/
def F73 (n : Nat) (vn : Int) : Option (List UInt8) := (some (strOf [(IntKind.wrap .u8 ((vn.tmod (256 : Int)))), (IntKind.wrap .u8 (((IntKind.wrap .i64 (vn.tdiv (256 : Int))).tmod (256 : Int))))]))
theorem F73_ok (n : Nat) (vn : Int) (r : List UInt8) (h : F73 n vn = some r) : PureC Try.prog 73 [(.int .i64 vn)] (.str r) [] := by
  refine PureC.mkS Try.func73 rfl rfl ?_
  intro w0 fz0 hfz
  replace h : (some (strOf [(IntKind.wrap .u8 ((vn.tmod (256 : Int)))), (IntKind.wrap .u8 (((IntKind.wrap .i64 (vn.tdiv (256 : Int))).tmod (256 : Int))))])) = some r := h
  refine TS.seq ?_
  have hq : (True) ∧ (True) := ⟨trivial, trivial⟩
  refine TS.reg [] ?_ ?_
  · apply prop_of ?_ hq
    kernel_rfl
  refine XS.then ?_
  refine TS.seq ?_
  have hq : (True) ∧ (((256 : Int) ≠ 0) ∧ ((True) ∧ ((True) ∧ (((256 : Int) ≠ 0) ∧ (((256 : Int) ≠ 0) ∧ ((True) ∧ (((0 < 2 ∧ True) ∧ ((1 < 2 ∧ True) ∧ (True))) ∧ ((True) ∧ ((True) ∧ (True)))))))))) := ⟨trivial, ⟨by decide, ⟨trivial, ⟨trivial, ⟨by decide, ⟨by decide, ⟨trivial, ⟨⟨⟨by decide, trivial⟩, ⟨⟨by decide, trivial⟩, trivial⟩⟩, ⟨trivial, ⟨trivial, trivial⟩⟩⟩⟩⟩⟩⟩⟩⟩⟩
  refine TS.reg [] ?_ ?_
  · apply prop_of ?_ hq
    kernel_rfl
  refine XS.then ?_
  refine TS.ret ?_
  obtain rfl : (strOf [(IntKind.wrap .u8 ((vn.tmod (256 : Int)))), (IntKind.wrap .u8 (((IntKind.wrap .i64 (vn.tdiv (256 : Int))).tmod (256 : Int))))]) = r := Option.some.inj h
  exact XS.fin [] ((True) ∧ (True)) (by kernel_rfl) ⟨trivial, trivial⟩

/-! plugtree/plugref.Low -/
def F96 (n : Nat) (vn : Int) : Option (List UInt8) := ((F73 n (vn.tmod (65536 : Int))).bind fun y_2 => ((F73 n (IntKind.wrap .i64 (vn.tdiv (65536 : Int)))).bind fun y_3 => (bif (decide (y_2.length + y_3.length ≤ 9223372036854775807)) then (some (y_2 ++ y_3)) else none)))
theorem F96_ok (n : Nat) (vn : Int) (r : List UInt8) (h : F96 n vn = some r) : PureC Try.prog 96 [(.int .i64 vn)] (.str r) [] := by
  refine PureC.mkS Try.func96 rfl rfl ?_
  intro w0 fz0 hfz
  replace h : ((F73 n (vn.tmod (65536 : Int))).bind fun y_2 => ((F73 n (IntKind.wrap .i64 (vn.tdiv (65536 : Int)))).bind fun y_3 => (bif (decide (y_2.length + y_3.length ≤ 9223372036854775807)) then (some (y_2 ++ y_3)) else none))) = some r := h
  refine TS.seq ?_
  have hq : (True) ∧ (True) := ⟨trivial, trivial⟩
  refine TS.reg [] ?_ ?_
  · apply prop_of ?_ hq
    kernel_rfl
  refine XS.then ?_
  refine TS.seq ?_
  obtain ⟨y_2, hx1, h⟩ := bind_some' h
  obtain ⟨y_3, hx2, h⟩ := bind_some' h
  obtain ⟨t3, h⟩ := test_some h
  have hq : (True) ∧ (((65536 : Int) ≠ 0) ∧ ((PureC Try.prog 73 [(.int .i64 (vn.tmod (65536 : Int)))] (.str y_2) []) ∧ ((True) ∧ (((65536 : Int) ≠ 0) ∧ ((PureC Try.prog 73 [(.int .i64 (IntKind.wrap .i64 (vn.tdiv (65536 : Int))))] (.str y_3) []) ∧ ((y_2.length + y_3.length ≤ 9223372036854775807) ∧ ((True) ∧ (True)))))))) := ⟨trivial, ⟨by decide, ⟨F73_ok n (vn.tmod (65536 : Int)) y_2 hx1, ⟨trivial, ⟨by decide, ⟨F73_ok n (IntKind.wrap .i64 (vn.tdiv (65536 : Int))) y_3 hx2, ⟨of_decide_eq_true t3, ⟨trivial, trivial⟩⟩⟩⟩⟩⟩⟩⟩
  refine TS.reg [.none, .none, (.call (.str y_2) []), .none, .none, (.call (.str y_3) [])] ?_ ?_
  · apply prop_of ?_ hq
    kernel_rfl
  refine XS.then ?_
  refine TS.ret ?_
  obtain rfl : (y_2 ++ y_3) = r := Option.some.inj h
  exact XS.fin [] ((True) ∧ (True)) (by kernel_rfl) ⟨trivial, trivial⟩

/-! plugtree/plugref.bytesOf -/
def F71_l2 (n : Nat) (l : List Int) (k71_2 : (Int × (List Int)) → Option ((List UInt8) × Bool)) : (Int × (List Int)) → Option ((List UInt8) × Bool)
  | (x, m0) => (bif (decide (x < ((l.length : Nat) : Int))) then (bif inb x l.length then ((F16 n (l.getD x.toNat (0 : Int)) (0 : Int) (255 : Int)).bind fun y_3 => (bif (!y_3) then (some (([] : List UInt8), false)) else (bif (decide (m0.length + [(IntKind.wrap .u8 ((l.getD x.toNat (0 : Int))))].length ≤ 17179869184)) then (k71_2 ((IntKind.wrap .i64 (x + (1 : Int))), (m0 ++ [(IntKind.wrap .u8 ((l.getD x.toNat (0 : Int))))]))) else none))) else none) else (some ((strOf m0), true)))
def F71 (n : Nat) (l : List Int) : Option ((List UInt8) × Bool) := (loopF (F71_l2 n l) n ((0 : Int), ([] : List Int)))
theorem F71_ok (n : Nat) (l : List Int) (r : (List UInt8) × Bool) (h : F71 n l = some r) : PureC Try.prog 71 [(.sl (.int .i64) l)] (.tup (.cons (.str r.1) (.cons (.bool r.2) .nil))) [] := by
  refine PureC.mkS Try.func71 rfl rfl ?_
  intro w0 fz0 hfz
  replace h : (loopF (F71_l2 n l) n ((0 : Int), ([] : List Int))) = some r := h
  refine TS.seq ?_
  have hq : (True) ∧ ((True) ∧ (True)) := ⟨trivial, ⟨trivial, trivial⟩⟩
  refine TS.reg [] ?_ ?_
  · apply prop_of ?_ hq
    kernel_rfl
  refine XS.then ?_
  refine TS.seq ?_
  have hq : (True) ∧ (True) := ⟨trivial, trivial⟩
  refine TS.reg [] ?_ ?_
  · apply prop_of ?_ hq
    kernel_rfl
  refine XS.then ?_
  refine TS.seq ?_
  refine TS.seq ?_
  have hq : (True) ∧ ((True) ∧ ((True) ∧ (True))) := ⟨trivial, ⟨trivial, ⟨trivial, trivial⟩⟩⟩
  refine TS.reg [] ?_ ?_
  · apply prop_of ?_ hq
    kernel_rfl
  refine XS.then ?_
  refine TS.block ?_
  refine TS.wk (.row false 4 [] 5 (.int .u8)) ?_
  refine TS.reLoop [0] (mkMask 24 [4, 7, 8, 9]) (D := Int × (List Int)) (fun d => match d with | (x, m0) => (mkTs 24 [(4, (.row 0)), (7, (.sl (.int .i64) l)), (8, (.int .i64 ((l.length : Nat) : Int))), (9, (.int .i64 x))], [(.row 5 (.int .u8) m0)])) (fun n' d => loopF (F71_l2 n l) n' d = some r) n ((0 : Int), ([] : List Int)) h ?_ (fun d => loopF_zero _ d r) ?_
  · kernel_rfl
  · rintro n2 ⟨x, m0⟩ h
    replace h : (bif (decide (x < ((l.length : Nat) : Int))) then (bif inb x l.length then ((F16 n (l.getD x.toNat (0 : Int)) (0 : Int) (255 : Int)).bind fun y_3 => (bif (!y_3) then (some (([] : List UInt8), false)) else (bif (decide (m0.length + [(IntKind.wrap .u8 ((l.getD x.toNat (0 : Int))))].length ≤ 17179869184)) then ((loopF (F71_l2 n l) n2) ((IntKind.wrap .i64 (x + (1 : Int))), (m0 ++ [(IntKind.wrap .u8 ((l.getD x.toNat (0 : Int))))]))) else none))) else none) else (some ((strOf m0), true))) = some r := h
    refine TS.seq ?_
    have hq : (True) ∧ (True) := ⟨trivial, trivial⟩
    refine TS.reg [] ?_ ?_
    · apply prop_of ?_ hq
      kernel_rfl
    refine XS.then ?_
    refine TS.seq ?_
    rcases bif_some h with ⟨c1, h⟩ | ⟨c2, h⟩
    · refine TS.cond (decide (x < ((l.length : Nat) : Int))) ?_ (fun e => ?_) (fun e => by rw [c1] at e; cases e)
      · kernel_rfl
      refine TS.skip ?_
      refine XS.then ?_
      refine TS.seq ?_
      refine TS.block ?_
      refine TS.seq ?_
      obtain ⟨t3, h⟩ := test_some h
      have hq : (inR x l.length) ∧ ((True) ∧ ((True) ∧ (True))) := ⟨inb_ok t3, ⟨trivial, ⟨trivial, trivial⟩⟩⟩
      refine TS.reg [] ?_ ?_
      · apply prop_of ?_ hq
        kernel_rfl
      refine XS.then ?_
      refine TS.seq ?_
      refine TS.seq ?_
      obtain ⟨y_3, hx4, h⟩ := bind_some' h
      have hq : (True) ∧ ((PureC Try.prog 16 [(.int .i64 (l.getD x.toNat (0 : Int))), (.int .i64 (0 : Int)), (.int .i64 (255 : Int))] (.bool y_3) []) ∧ ((True) ∧ (True))) := ⟨trivial, ⟨F16_ok n (l.getD x.toNat (0 : Int)) (0 : Int) (255 : Int) y_3 hx4, ⟨trivial, trivial⟩⟩⟩
      refine TS.reg [.none, (.call (.bool y_3) [])] ?_ ?_
      · apply prop_of ?_ hq
        kernel_rfl
      refine XS.then ?_
      rcases bif_some h with ⟨c5, h⟩ | ⟨c6, h⟩
      · refine TS.cond (!y_3) ?_ (fun e => ?_) (fun e => by rw [c5] at e; cases e)
        · kernel_rfl
        refine TS.seq ?_
        have hq : (True) ∧ ((True) ∧ (True)) := ⟨trivial, ⟨trivial, trivial⟩⟩
        refine TS.reg [] ?_ ?_
        · apply prop_of ?_ hq
          kernel_rfl
        refine XS.then ?_
        refine TS.ret ?_
        refine XS.passR ?_
        refine XS.blockRet ?_
        refine XS.passR ?_
        refine XS.passR ?_
        refine XS.blockRet ?_
        refine XS.passR ?_
        obtain rfl : (([] : List UInt8), false) = r := Option.some.inj h
        exact XS.fin [] ((True) ∧ ((True) ∧ (True))) (by kernel_rfl) ⟨trivial, ⟨trivial, trivial⟩⟩
      · refine TS.cond (!y_3) ?_ (fun e => by rw [c6] at e; cases e) (fun e => ?_)
        · kernel_rfl
        refine TS.skip ?_
        refine XS.then ?_
        obtain ⟨t7, h⟩ := test_some h
        have hq : (True) ∧ ((True) ∧ ((True) ∧ (((0 < 1 ∧ True) ∧ (True)) ∧ ((m0.length + [(IntKind.wrap .u8 ((l.getD x.toNat (0 : Int))))].length ≤ 17179869184) ∧ ((True) ∧ (True)))))) := ⟨trivial, ⟨trivial, ⟨trivial, ⟨⟨⟨by decide, trivial⟩, trivial⟩, ⟨of_decide_eq_true t7, ⟨trivial, trivial⟩⟩⟩⟩⟩⟩
        refine TS.reg [] ?_ ?_
        · apply prop_of ?_ hq
          kernel_rfl
        refine XS.blockEnd ?_
        refine XS.then ?_
        have hq : (True) ∧ ((True) ∧ (True)) := ⟨trivial, ⟨trivial, trivial⟩⟩
        refine TS.reg [] ?_ ?_
        · apply prop_of ?_ hq
          kernel_rfl
        refine XS.reAny [2] (mkMask 24 [4, 7, 8, 9]) ((IntKind.wrap .i64 (x + (1 : Int))), (m0 ++ [(IntKind.wrap .u8 ((l.getD x.toNat (0 : Int))))])) h ?_
        kernel_rfl
    · refine TS.cond (decide (x < ((l.length : Nat) : Int))) ?_ (fun e => by rw [c2] at e; cases e) (fun e => ?_)
      · kernel_rfl
      refine TS.exit ?_
      refine XS.passE ?_
      refine XS.passE ?_
      refine XS.out ?_
      refine XS.then ?_
      refine TS.seq ?_
      have hq : (True) ∧ ((True) ∧ ((True) ∧ ((True) ∧ (True)))) := ⟨trivial, ⟨trivial, ⟨trivial, ⟨trivial, trivial⟩⟩⟩⟩
      refine TS.reg [] ?_ ?_
      · apply prop_of ?_ hq
        kernel_rfl
      refine XS.then ?_
      refine TS.ret ?_
      obtain rfl : ((strOf m0), true) = r := Option.some.inj h
      exact XS.fin [] ((True) ∧ ((True) ∧ (True))) (by kernel_rfl) ⟨trivial, ⟨trivial, trivial⟩⟩

/-! plugtree/plugref.ItemsText -/
def F44_l20 (n : Nat) (k44_19 : ((List UInt8) × Int) → Option ((List UInt8) × Int)) (l : List (Int × Int)) (vout : List UInt8) (x_2 : Int) (y_7 : List UInt8) (k44_20 : Int → Option ((List UInt8) × Int)) : Int → Option ((List UInt8) × Int)
  | x_3 => (bif (decide (x_3 < (([(0 : Int), (1 : Int), (2 : Int), (4 : Int)].length : Nat) : Int))) then (bif inb x_3 ([(0 : Int), (1 : Int), (2 : Int), (4 : Int)].length) then (bif subB y_7.length none (some ([(0 : Int), (1 : Int), (2 : Int), (4 : Int)].getD x_3.toNat (0 : Int))) then ((F93 n (y_7.take ([(0 : Int), (1 : Int), (2 : Int), (4 : Int)].getD x_3.toNat (0 : Int)).toNat)).bind fun y_8 => (bif (y_8 == (l.getD x_2.toNat ((0 : Int), (0 : Int))).2) then ((F71 n [(IntKind.wrap .i64 ((IntKind.wrap .i64 ((4 : Int) * (l.getD x_2.toNat ((0 : Int), (0 : Int))).1)) + x_3))]).bind fun y_9 => (bif (decide (y_9.1.length + (y_7.take ([(0 : Int), (1 : Int), (2 : Int), (4 : Int)].getD x_3.toNat (0 : Int)).toNat).length ≤ 9223372036854775807)) then (bif (decide (vout.length + (y_9.1 ++ (y_7.take ([(0 : Int), (1 : Int), (2 : Int), (4 : Int)].getD x_3.toNat (0 : Int)).toNat)).length ≤ 9223372036854775807)) then (k44_19 ((vout ++ (y_9.1 ++ (y_7.take ([(0 : Int), (1 : Int), (2 : Int), (4 : Int)].getD x_3.toNat (0 : Int)).toNat))), (IntKind.wrap .i64 (x_2 + (1 : Int))))) else none) else none)) else (k44_20 (IntKind.wrap .i64 (x_3 + (1 : Int)))))) else none) else none) else (k44_19 (vout, (IntKind.wrap .i64 (x_2 + (1 : Int))))))
def F44_l19 (n : Nat) (l : List (Int × Int)) (k44_19 : ((List UInt8) × Int) → Option ((List UInt8) × Int)) : ((List UInt8) × Int) → Option ((List UInt8) × Int)
  | (vout, x_2) => (bif (decide (x_2 < ((l.length : Nat) : Int))) then (bif inb x_2 l.length then ((F95 n (32 : Int)).bind fun y_6 => (bif (y_6 != 0) then ((F96 n ((IntKind.wrap .i64 ((l.getD x_2.toNat ((0 : Int), (0 : Int))).2 + y_6)).tmod y_6)).bind fun y_7 => (loopF (F44_l20 n k44_19 l vout x_2 y_7) n (0 : Int))) else none)) else none) else (bif (decide (((vout.length : Nat) : Int) > (512 : Int))) then (some (([] : List UInt8), (2 : Int))) else (some (vout, (0 : Int)))))
def F44_l16 (n : Nat) (l : List (Int × Int)) (k44_16 : Int → Option ((List UInt8) × Int)) : Int → Option ((List UInt8) × Int)
  | x => (bif (decide (x < ((l.length : Nat) : Int))) then (bif inb x l.length then ((F16 n ((l.getD x.toNat ((0 : Int), (0 : Int))).1) (0 : Int) (63 : Int)).bind fun y_3 => (bif (!y_3) then (some (([] : List UInt8), (1 : Int))) else ((F95 n (31 : Int)).bind fun y_4 => ((F16 n ((l.getD x.toNat ((0 : Int), (0 : Int))).2) (IntKind.wrap .i64 (0 - y_4)) (IntKind.wrap .i64 (y_4 - (1 : Int)))).bind fun y_5 => (bif (!y_5) then (some (([] : List UInt8), (1 : Int))) else (k44_16 (IntKind.wrap .i64 (x + (1 : Int))))))))) else none) else (loopF (F44_l19 n l) n (([] : List UInt8), (0 : Int))))
def F44 (n : Nat) (l : List (Int × Int)) : Option ((List UInt8) × Int) := (bif (decide (((l.length : Nat) : Int) > (200 : Int))) then (some (([] : List UInt8), (2 : Int))) else (loopF (F44_l16 n l) n (0 : Int)))
theorem F44_ok (n : Nat) (l : List (Int × Int)) (r : (List UInt8) × Int) (h : F44 n l = some r) : PureC Try.prog 44 [(.sl (.st (.pair (.int .i64) (.int .i64))) l)] (.tup (.cons (.str r.1) (.cons (.int .i64 r.2) .nil))) [] := by
  refine PureC.mkS Try.func44 rfl rfl ?_
  intro w0 fz0 hfz
  replace h : (bif (decide (((l.length : Nat) : Int) > (200 : Int))) then (some (([] : List UInt8), (2 : Int))) else (loopF (F44_l16 n l) n (0 : Int))) = some r := h
  refine TS.seq ?_
  have hq : (True) ∧ ((True) ∧ (True)) := ⟨trivial, ⟨trivial, trivial⟩⟩
  refine TS.reg [] ?_ ?_
  · apply prop_of ?_ hq
    kernel_rfl
  refine XS.then ?_
  refine TS.seq ?_
  refine TS.seq ?_
  have hq : (True) ∧ ((True) ∧ ((True) ∧ (True))) := ⟨trivial, ⟨trivial, ⟨trivial, trivial⟩⟩⟩
  refine TS.reg [] ?_ ?_
  · apply prop_of ?_ hq
    kernel_rfl
  refine XS.then ?_
  rcases bif_some h with ⟨c1, h⟩ | ⟨c2, h⟩
  · refine TS.cond (decide (((l.length : Nat) : Int) > (200 : Int))) ?_ (fun e => ?_) (fun e => by rw [c1] at e; cases e)
    · kernel_rfl
    refine TS.seq ?_
    have hq : (True) ∧ ((True) ∧ (True)) := ⟨trivial, ⟨trivial, trivial⟩⟩
    refine TS.reg [] ?_ ?_
    · apply prop_of ?_ hq
      kernel_rfl
    refine XS.then ?_
    refine TS.ret ?_
    refine XS.passR ?_
    obtain rfl : (([] : List UInt8), (2 : Int)) = r := Option.some.inj h
    exact XS.fin [] ((True) ∧ ((True) ∧ (True))) (by kernel_rfl) ⟨trivial, ⟨trivial, trivial⟩⟩
  · refine TS.cond (decide (((l.length : Nat) : Int) > (200 : Int))) ?_ (fun e => by rw [c2] at e; cases e) (fun e => ?_)
    · kernel_rfl
    refine TS.skip ?_
    refine XS.then ?_
    refine TS.seq ?_
    refine TS.seq ?_
    have hq : (True) ∧ ((True) ∧ ((True) ∧ (True))) := ⟨trivial, ⟨trivial, ⟨trivial, trivial⟩⟩⟩
    refine TS.reg [] ?_ ?_
    · apply prop_of ?_ hq
      kernel_rfl
    refine XS.then ?_
    refine TS.block ?_
    refine TS.reLoop [] (mkMask 88 [0, 17, 18, 19]) (D := Int) (fun d => match d with | x => (mkTs 88 [(0, (.sl (.st (.pair (.int .i64) (.int .i64))) l)), (17, (.sl (.st (.pair (.int .i64) (.int .i64))) l)), (18, (.int .i64 ((l.length : Nat) : Int))), (19, (.int .i64 x))], [])) (fun n' d => loopF (F44_l16 n l) n' d = some r) n (0 : Int) h ?_ (fun d => loopF_zero _ d r) ?_
    · kernel_rfl
    · rintro n16 x h
      replace h : (bif (decide (x < ((l.length : Nat) : Int))) then (bif inb x l.length then ((F16 n ((l.getD x.toNat ((0 : Int), (0 : Int))).1) (0 : Int) (63 : Int)).bind fun y_3 => (bif (!y_3) then (some (([] : List UInt8), (1 : Int))) else ((F95 n (31 : Int)).bind fun y_4 => ((F16 n ((l.getD x.toNat ((0 : Int), (0 : Int))).2) (IntKind.wrap .i64 (0 - y_4)) (IntKind.wrap .i64 (y_4 - (1 : Int)))).bind fun y_5 => (bif (!y_5) then (some (([] : List UInt8), (1 : Int))) else ((loopF (F44_l16 n l) n16) (IntKind.wrap .i64 (x + (1 : Int))))))))) else none) else (loopF (F44_l19 n l) n (([] : List UInt8), (0 : Int)))) = some r := h
      refine TS.seq ?_
      have hq : (True) ∧ (True) := ⟨trivial, trivial⟩
      refine TS.reg [] ?_ ?_
      · apply prop_of ?_ hq
        kernel_rfl
      refine XS.then ?_
      refine TS.seq ?_
      rcases bif_some h with ⟨c3, h⟩ | ⟨c4, h⟩
      · refine TS.cond (decide (x < ((l.length : Nat) : Int))) ?_ (fun e => ?_) (fun e => by rw [c3] at e; cases e)
        · kernel_rfl
        refine TS.skip ?_
        refine XS.then ?_
        refine TS.seq ?_
        refine TS.block ?_
        refine TS.seq ?_
        obtain ⟨t5, h⟩ := test_some h
        have hq : (inR x l.length) ∧ ((True) ∧ ((True) ∧ ((True) ∧ (True)))) := ⟨inb_ok t5, ⟨trivial, ⟨trivial, ⟨trivial, trivial⟩⟩⟩⟩
        refine TS.reg [] ?_ ?_
        · apply prop_of ?_ hq
          kernel_rfl
        refine XS.then ?_
        refine TS.seq ?_
        obtain ⟨y_3, hx6, h⟩ := bind_some' h
        rcases bif_some h with ⟨c7, h⟩ | ⟨c8, h⟩
        · have hq : ((True) ∧ ((True) ∧ ((PureC Try.prog 16 [(.int .i64 (l.getD x.toNat ((0 : Int), (0 : Int))).1), (.int .i64 (0 : Int)), (.int .i64 (63 : Int))] (.bool y_3) []) ∧ ((True) ∧ (((True) ∧ (!y_3) = true) ∧ ((True) ∧ (True))))))) ∧ (True) := ⟨⟨trivial, ⟨trivial, ⟨F16_ok n ((l.getD x.toNat ((0 : Int), (0 : Int))).1) (0 : Int) (63 : Int) y_3 hx6, ⟨trivial, ⟨⟨trivial, c7⟩, ⟨trivial, trivial⟩⟩⟩⟩⟩⟩, trivial⟩
          refine TS.draw 14 [] [.none, .none, (.call (.bool y_3) []), .none, .dec true] (by kernel_rfl) ?_ ?_
          · apply prop_of ?_ hq
            kernel_rfl
          refine XS.then ?_
          refine TS.yes ?_ ?_
          · kernel_rfl
          refine TS.seq ?_
          have hq : (True) ∧ ((True) ∧ (True)) := ⟨trivial, ⟨trivial, trivial⟩⟩
          refine TS.reg [] ?_ ?_
          · apply prop_of ?_ hq
            kernel_rfl
          refine XS.then ?_
          refine TS.ret ?_
          refine XS.blockRet ?_
          refine XS.passR ?_
          refine XS.passR ?_
          refine XS.blockRet ?_
          refine XS.passR ?_
          obtain rfl : (([] : List UInt8), (1 : Int)) = r := Option.some.inj h
          exact XS.fin [] ((True) ∧ ((True) ∧ (True))) (by kernel_rfl) ⟨trivial, ⟨trivial, trivial⟩⟩
        · obtain ⟨y_4, hx9, h⟩ := bind_some' h
          obtain ⟨y_5, hx10, h⟩ := bind_some' h
          have hq : ((True) ∧ ((True) ∧ ((PureC Try.prog 16 [(.int .i64 (l.getD x.toNat ((0 : Int), (0 : Int))).1), (.int .i64 (0 : Int)), (.int .i64 (63 : Int))] (.bool y_3) []) ∧ ((True) ∧ (((True) ∧ (!y_3) = false) ∧ ((True) ∧ ((True) ∧ ((PureC Try.prog 95 [(.int .i64 (31 : Int))] (.int .i64 y_4) []) ∧ ((True) ∧ ((PureC Try.prog 95 [(.int .i64 (31 : Int))] (.int .i64 y_4) []) ∧ ((True) ∧ ((PureC Try.prog 16 [(.int .i64 (l.getD x.toNat ((0 : Int), (0 : Int))).2), (.int .i64 (IntKind.wrap .i64 (0 - y_4))), (.int .i64 (IntKind.wrap .i64 (y_4 - (1 : Int))))] (.bool y_5) []) ∧ ((True) ∧ ((True) ∧ (True))))))))))))))) ∧ (True) := ⟨⟨trivial, ⟨trivial, ⟨F16_ok n ((l.getD x.toNat ((0 : Int), (0 : Int))).1) (0 : Int) (63 : Int) y_3 hx6, ⟨trivial, ⟨⟨trivial, c8⟩, ⟨trivial, ⟨trivial, ⟨F95_ok n (31 : Int) y_4 hx9, ⟨trivial, ⟨F95_ok n (31 : Int) y_4 hx9, ⟨trivial, ⟨F16_ok n ((l.getD x.toNat ((0 : Int), (0 : Int))).2) (IntKind.wrap .i64 (0 - y_4)) (IntKind.wrap .i64 (y_4 - (1 : Int))) y_5 hx10, ⟨trivial, ⟨trivial, trivial⟩⟩⟩⟩⟩⟩⟩⟩⟩⟩⟩⟩⟩⟩, trivial⟩
          refine TS.draw 14 [] [.none, .none, (.call (.bool y_3) []), .none, .dec false, .none, .none, (.call (.int .i64 y_4) []), .none, (.call (.int .i64 y_4) []), .none, (.call (.bool y_5) [])] (by kernel_rfl) ?_ ?_
          · apply prop_of ?_ hq
            kernel_rfl
          refine XS.then ?_
          rcases bif_some h with ⟨c11, h⟩ | ⟨c12, h⟩
          · refine TS.cond (!y_5) ?_ (fun e => ?_) (fun e => by rw [c11] at e; cases e)
            · kernel_rfl
            refine TS.seq ?_
            have hq : (True) ∧ ((True) ∧ (True)) := ⟨trivial, ⟨trivial, trivial⟩⟩
            refine TS.reg [] ?_ ?_
            · apply prop_of ?_ hq
              kernel_rfl
            refine XS.then ?_
            refine TS.ret ?_
            refine XS.blockRet ?_
            refine XS.passR ?_
            refine XS.passR ?_
            refine XS.blockRet ?_
            refine XS.passR ?_
            obtain rfl : (([] : List UInt8), (1 : Int)) = r := Option.some.inj h
            exact XS.fin [] ((True) ∧ ((True) ∧ (True))) (by kernel_rfl) ⟨trivial, ⟨trivial, trivial⟩⟩
          · refine TS.cond (!y_5) ?_ (fun e => by rw [c12] at e; cases e) (fun e => ?_)
            · kernel_rfl
            refine TS.skip ?_
            refine XS.blockEnd ?_
            refine XS.then ?_
            have hq : (True) ∧ ((True) ∧ (True)) := ⟨trivial, ⟨trivial, trivial⟩⟩
            refine TS.reg [] ?_ ?_
            · apply prop_of ?_ hq
              kernel_rfl
            refine XS.reAny [] (mkMask 88 [0, 17, 18, 19]) (IntKind.wrap .i64 (x + (1 : Int))) h ?_
            kernel_rfl
      · refine TS.cond (decide (x < ((l.length : Nat) : Int))) ?_ (fun e => by rw [c4] at e; cases e) (fun e => ?_)
        · kernel_rfl
        refine TS.exit ?_
        refine XS.passE ?_
        refine XS.passE ?_
        refine XS.out ?_
        refine XS.then ?_
        refine TS.seq ?_
        have hq : (True) ∧ (True) := ⟨trivial, trivial⟩
        refine TS.reg [] ?_ ?_
        · apply prop_of ?_ hq
          kernel_rfl
        refine XS.then ?_
        refine TS.seq ?_
        refine TS.seq ?_
        have hq : (True) ∧ ((True) ∧ ((True) ∧ (True))) := ⟨trivial, ⟨trivial, ⟨trivial, trivial⟩⟩⟩
        refine TS.reg [] ?_ ?_
        · apply prop_of ?_ hq
          kernel_rfl
        refine XS.then ?_
        refine TS.block ?_
        refine TS.reLoop [] (mkMask 88 [6, 38, 39, 40]) (D := (List UInt8) × Int) (fun d => match d with | (vout, x_2) => (mkTs 88 [(6, (.str vout)), (38, (.sl (.st (.pair (.int .i64) (.int .i64))) l)), (39, (.int .i64 ((l.length : Nat) : Int))), (40, (.int .i64 x_2))], [])) (fun n' d => loopF (F44_l19 n l) n' d = some r) n (([] : List UInt8), (0 : Int)) h ?_ (fun d => loopF_zero _ d r) ?_
        · kernel_rfl
        · rintro n19 ⟨vout, x_2⟩ h
          replace h : (bif (decide (x_2 < ((l.length : Nat) : Int))) then (bif inb x_2 l.length then ((F95 n (32 : Int)).bind fun y_6 => (bif (y_6 != 0) then ((F96 n ((IntKind.wrap .i64 ((l.getD x_2.toNat ((0 : Int), (0 : Int))).2 + y_6)).tmod y_6)).bind fun y_7 => (loopF (F44_l20 n (loopF (F44_l19 n l) n19) l vout x_2 y_7) n (0 : Int))) else none)) else none) else (bif (decide (((vout.length : Nat) : Int) > (512 : Int))) then (some (([] : List UInt8), (2 : Int))) else (some (vout, (0 : Int))))) = some r := h
          refine TS.seq ?_
          have hq : (True) ∧ (True) := ⟨trivial, trivial⟩
          refine TS.reg [] ?_ ?_
          · apply prop_of ?_ hq
            kernel_rfl
          refine XS.then ?_
          refine TS.seq ?_
          rcases bif_some h with ⟨c13, h⟩ | ⟨c14, h⟩
          · refine TS.cond (decide (x_2 < ((l.length : Nat) : Int))) ?_ (fun e => ?_) (fun e => by rw [c13] at e; cases e)
            · kernel_rfl
            refine TS.skip ?_
            refine XS.then ?_
            refine TS.seq ?_
            refine TS.block ?_
            refine TS.seq ?_
            obtain ⟨t15, h⟩ := test_some h
            have hq : (inR x_2 l.length) ∧ ((True) ∧ ((True) ∧ ((True) ∧ (True)))) := ⟨inb_ok t15, ⟨trivial, ⟨trivial, ⟨trivial, trivial⟩⟩⟩⟩
            refine TS.reg [] ?_ ?_
            · apply prop_of ?_ hq
              kernel_rfl
            refine XS.then ?_
            refine TS.seq ?_
            obtain ⟨y_6, hx16, h⟩ := bind_some' h
            obtain ⟨t17, h⟩ := test_some h
            obtain ⟨y_7, hx18, h⟩ := bind_some' h
            have hq : ((True) ∧ ((True) ∧ ((PureC Try.prog 95 [(.int .i64 (32 : Int))] (.int .i64 y_6) []) ∧ ((True) ∧ ((PureC Try.prog 95 [(.int .i64 (32 : Int))] (.int .i64 y_6) []) ∧ ((y_6 ≠ 0) ∧ ((PureC Try.prog 96 [(.int .i64 ((IntKind.wrap .i64 ((l.getD x_2.toNat ((0 : Int), (0 : Int))).2 + y_6)).tmod y_6))] (.str y_7) []) ∧ (True)))))))) ∧ ((True) ∧ (True)) := ⟨⟨trivial, ⟨trivial, ⟨F95_ok n (32 : Int) y_6 hx16, ⟨trivial, ⟨F95_ok n (32 : Int) y_6 hx16, ⟨bne_ok t17, ⟨F96_ok n ((IntKind.wrap .i64 ((l.getD x_2.toNat ((0 : Int), (0 : Int))).2 + y_6)).tmod y_6) y_7 hx18, trivial⟩⟩⟩⟩⟩⟩⟩, ⟨trivial, trivial⟩⟩
            refine TS.draw 7 [] [.none, .none, (.call (.int .i64 y_6) []), .none, (.call (.int .i64 y_6) []), .none, (.call (.str y_7) [])] (by kernel_rfl) ?_ ?_
            · apply prop_of ?_ hq
              kernel_rfl
            refine XS.then ?_
            refine TS.seq ?_
            have hq : ((0 < 4 ∧ True) ∧ ((1 < 4 ∧ True) ∧ ((2 < 4 ∧ True) ∧ ((3 < 4 ∧ True) ∧ (True))))) ∧ ((True) ∧ ((True) ∧ (True))) := ⟨⟨⟨by decide, trivial⟩, ⟨⟨by decide, trivial⟩, ⟨⟨by decide, trivial⟩, ⟨⟨by decide, trivial⟩, trivial⟩⟩⟩⟩, ⟨trivial, ⟨trivial, trivial⟩⟩⟩
            refine TS.reg [] ?_ ?_
            · apply prop_of ?_ hq
              kernel_rfl
            refine XS.then ?_
            refine TS.block ?_
            refine TS.reLoop [0, 1] (mkMask 88 [6, 8, 9, 38, 39, 40, 51, 52, 53]) (D := Int) (fun d => match d with | x_3 => (mkTs 88 [(6, (.str vout)), (8, (.ptr 0 [])), (9, (.str y_7)), (38, (.sl (.st (.pair (.int .i64) (.int .i64))) l)), (39, (.int .i64 ((l.length : Nat) : Int))), (40, (.int .i64 x_2)), (51, (.row 1)), (52, (.int .i64 (([(0 : Int), (1 : Int), (2 : Int), (4 : Int)].length : Nat) : Int))), (53, (.int .i64 x_3))], [(.box 64 (.st (.cons (.int .i64 (l.getD x_2.toNat ((0 : Int), (0 : Int))).1) (.int .i64 (l.getD x_2.toNat ((0 : Int), (0 : Int))).2)))), (.row 3 (.int .i64) [(0 : Int), (1 : Int), (2 : Int), (4 : Int)])])) (fun n' d => loopF (F44_l20 n (loopF (F44_l19 n l) n19) l vout x_2 y_7) n' d = some r) n (0 : Int) h ?_ (fun d => loopF_zero _ d r) ?_
            · kernel_rfl
            · rintro n20 x_3 h
              replace h : (bif (decide (x_3 < (([(0 : Int), (1 : Int), (2 : Int), (4 : Int)].length : Nat) : Int))) then (bif inb x_3 ([(0 : Int), (1 : Int), (2 : Int), (4 : Int)].length) then (bif subB y_7.length none (some ([(0 : Int), (1 : Int), (2 : Int), (4 : Int)].getD x_3.toNat (0 : Int))) then ((F93 n (y_7.take ([(0 : Int), (1 : Int), (2 : Int), (4 : Int)].getD x_3.toNat (0 : Int)).toNat)).bind fun y_8 => (bif (y_8 == (l.getD x_2.toNat ((0 : Int), (0 : Int))).2) then ((F71 n [(IntKind.wrap .i64 ((IntKind.wrap .i64 ((4 : Int) * (l.getD x_2.toNat ((0 : Int), (0 : Int))).1)) + x_3))]).bind fun y_9 => (bif (decide (y_9.1.length + (y_7.take ([(0 : Int), (1 : Int), (2 : Int), (4 : Int)].getD x_3.toNat (0 : Int)).toNat).length ≤ 9223372036854775807)) then (bif (decide (vout.length + (y_9.1 ++ (y_7.take ([(0 : Int), (1 : Int), (2 : Int), (4 : Int)].getD x_3.toNat (0 : Int)).toNat)).length ≤ 9223372036854775807)) then ((loopF (F44_l19 n l) n19) ((vout ++ (y_9.1 ++ (y_7.take ([(0 : Int), (1 : Int), (2 : Int), (4 : Int)].getD x_3.toNat (0 : Int)).toNat))), (IntKind.wrap .i64 (x_2 + (1 : Int))))) else none) else none)) else ((loopF (F44_l20 n (loopF (F44_l19 n l) n19) l vout x_2 y_7) n20) (IntKind.wrap .i64 (x_3 + (1 : Int)))))) else none) else none) else ((loopF (F44_l19 n l) n19) (vout, (IntKind.wrap .i64 (x_2 + (1 : Int)))))) = some r := h
              refine TS.seq ?_
              have hq : (True) ∧ (True) := ⟨trivial, trivial⟩
              refine TS.reg [] ?_ ?_
              · apply prop_of ?_ hq
                kernel_rfl
              refine XS.then ?_
              refine TS.seq ?_
              rcases bif_some h with ⟨c19, h⟩ | ⟨c20, h⟩
              · refine TS.cond (decide (x_3 < (([(0 : Int), (1 : Int), (2 : Int), (4 : Int)].length : Nat) : Int))) ?_ (fun e => ?_) (fun e => by rw [c19] at e; cases e)
                · kernel_rfl
                refine TS.skip ?_
                refine XS.then ?_
                refine TS.seq ?_
                refine TS.block ?_
                refine TS.seq ?_
                obtain ⟨t21, h⟩ := test_some h
                have hq : (True) ∧ ((inR x_3 ([(0 : Int), (1 : Int), (2 : Int), (4 : Int)].length)) ∧ ((x_3.toNat < [(0 : Int), (1 : Int), (2 : Int), (4 : Int)].length ∧ (True)) ∧ ((True) ∧ ((True) ∧ (True))))) := ⟨trivial, ⟨inb_ok t21, ⟨⟨inR_lt (inb_ok t21), trivial⟩, ⟨trivial, ⟨trivial, trivial⟩⟩⟩⟩⟩
                refine TS.reg [] ?_ ?_
                · apply prop_of ?_ hq
                  kernel_rfl
                refine XS.then ?_
                refine TS.seq ?_
                obtain ⟨t22, h⟩ := test_some h
                obtain ⟨y_8, hx23, h⟩ := bind_some' h
                have hq : ((True) ∧ ((True) ∧ ((subC y_7.length none (some ([(0 : Int), (1 : Int), (2 : Int), (4 : Int)].getD x_3.toNat (0 : Int)))) ∧ ((PureC Try.prog 93 [(.str (y_7.take ([(0 : Int), (1 : Int), (2 : Int), (4 : Int)].getD x_3.toNat (0 : Int)).toNat))] (.int .i64 y_8) []) ∧ ((True) ∧ ((True) ∧ ((True) ∧ (True)))))))) ∧ (True) := ⟨⟨trivial, ⟨trivial, ⟨subB_ok t22, ⟨F93_ok n (y_7.take ([(0 : Int), (1 : Int), (2 : Int), (4 : Int)].getD x_3.toNat (0 : Int)).toNat) y_8 hx23, ⟨trivial, ⟨trivial, ⟨trivial, trivial⟩⟩⟩⟩⟩⟩⟩, trivial⟩
                refine TS.draw 7 [] [.none, .none, .none, (.call (.int .i64 y_8) [])] (by kernel_rfl) ?_ ?_
                · apply prop_of ?_ hq
                  kernel_rfl
                refine XS.then ?_
                rcases bif_some h with ⟨c24, h⟩ | ⟨c25, h⟩
                · refine TS.cond (y_8 == (l.getD x_2.toNat ((0 : Int), (0 : Int))).2) ?_ (fun e => ?_) (fun e => by rw [c24] at e; cases e)
                  · kernel_rfl
                  refine TS.seq ?_
                  obtain ⟨y_9, hx26, h⟩ := bind_some' h
                  have hq : (True) ∧ ((True) ∧ ((True) ∧ ((True) ∧ ((True) ∧ (((0 < 1 ∧ True) ∧ (True)) ∧ ((((True) ∧ (True)) ∧ PureC Try.prog 71 [(.sl (.int .i64) [(IntKind.wrap .i64 ((IntKind.wrap .i64 ((4 : Int) * (l.getD x_2.toNat ((0 : Int), (0 : Int))).1)) + x_3))])] (.tup (.cons (.str y_9.1) (.cons (.bool y_9.2) .nil))) []) ∧ ((True) ∧ ((True) ∧ ((True) ∧ ((True) ∧ ((True) ∧ (True)))))))))))) := ⟨trivial, ⟨trivial, ⟨trivial, ⟨trivial, ⟨trivial, ⟨⟨⟨by decide, trivial⟩, trivial⟩, ⟨⟨⟨trivial, trivial⟩, F71_ok n [(IntKind.wrap .i64 ((IntKind.wrap .i64 ((4 : Int) * (l.getD x_2.toNat ((0 : Int), (0 : Int))).1)) + x_3))] y_9 hx26⟩, ⟨trivial, ⟨trivial, ⟨trivial, ⟨trivial, ⟨trivial, trivial⟩⟩⟩⟩⟩⟩⟩⟩⟩⟩⟩⟩
                  refine TS.reg [.none, .none, .none, .none, .none, .none, (.call (.tup (.cons (.str y_9.1) (.cons (.bool y_9.2) .nil))) [])] ?_ ?_
                  · apply prop_of ?_ hq
                    kernel_rfl
                  refine XS.then ?_
                  refine TS.seq ?_
                  obtain ⟨t27, h⟩ := test_some h
                  obtain ⟨t28, h⟩ := test_some h
                  have hq : (True) ∧ ((True) ∧ ((True) ∧ ((True) ∧ ((subC y_7.length none (some ([(0 : Int), (1 : Int), (2 : Int), (4 : Int)].getD x_3.toNat (0 : Int)))) ∧ ((y_9.1.length + (y_7.take ([(0 : Int), (1 : Int), (2 : Int), (4 : Int)].getD x_3.toNat (0 : Int)).toNat).length ≤ 9223372036854775807) ∧ ((vout.length + (y_9.1 ++ (y_7.take ([(0 : Int), (1 : Int), (2 : Int), (4 : Int)].getD x_3.toNat (0 : Int)).toNat)).length ≤ 9223372036854775807) ∧ ((True) ∧ (True)))))))) := ⟨trivial, ⟨trivial, ⟨trivial, ⟨trivial, ⟨subB_ok t22, ⟨of_decide_eq_true t27, ⟨of_decide_eq_true t28, ⟨trivial, trivial⟩⟩⟩⟩⟩⟩⟩⟩
                  refine TS.reg [] ?_ ?_
                  · apply prop_of ?_ hq
                    kernel_rfl
                  refine XS.then ?_
                  refine TS.exit ?_
                  refine XS.through (by decide) ?_
                  refine XS.passE ?_
                  refine XS.passE ?_
                  refine XS.out ?_
                  refine XS.blockEnd ?_
                  refine XS.then ?_
                  have hq : (True) ∧ ((True) ∧ (True)) := ⟨trivial, ⟨trivial, trivial⟩⟩
                  refine TS.reg [] ?_ ?_
                  · apply prop_of ?_ hq
                    kernel_rfl
                  refine XS.reAny [] (mkMask 88 [6, 38, 39, 40]) ((vout ++ (y_9.1 ++ (y_7.take ([(0 : Int), (1 : Int), (2 : Int), (4 : Int)].getD x_3.toNat (0 : Int)).toNat))), (IntKind.wrap .i64 (x_2 + (1 : Int)))) h ?_
                  kernel_rfl
                · refine TS.cond (y_8 == (l.getD x_2.toNat ((0 : Int), (0 : Int))).2) ?_ (fun e => by rw [c25] at e; cases e) (fun e => ?_)
                  · kernel_rfl
                  refine TS.skip ?_
                  refine XS.blockEnd ?_
                  refine XS.then ?_
                  have hq : (True) ∧ ((True) ∧ (True)) := ⟨trivial, ⟨trivial, trivial⟩⟩
                  refine TS.reg [] ?_ ?_
                  · apply prop_of ?_ hq
                    kernel_rfl
                  refine XS.reAny [0, 1] (mkMask 88 [6, 8, 9, 38, 39, 40, 51, 52, 53]) (IntKind.wrap .i64 (x_3 + (1 : Int))) h ?_
                  kernel_rfl
              · refine TS.cond (decide (x_3 < (([(0 : Int), (1 : Int), (2 : Int), (4 : Int)].length : Nat) : Int))) ?_ (fun e => by rw [c20] at e; cases e) (fun e => ?_)
                · kernel_rfl
                refine TS.exit ?_
                refine XS.passE ?_
                refine XS.passE ?_
                refine XS.out ?_
                refine XS.blockEnd ?_
                refine XS.then ?_
                have hq : (True) ∧ ((True) ∧ (True)) := ⟨trivial, ⟨trivial, trivial⟩⟩
                refine TS.reg [] ?_ ?_
                · apply prop_of ?_ hq
                  kernel_rfl
                refine XS.reAny [] (mkMask 88 [6, 38, 39, 40]) (vout, (IntKind.wrap .i64 (x_2 + (1 : Int)))) h ?_
                kernel_rfl
          · refine TS.cond (decide (x_2 < ((l.length : Nat) : Int))) ?_ (fun e => by rw [c14] at e; cases e) (fun e => ?_)
            · kernel_rfl
            refine TS.exit ?_
            refine XS.passE ?_
            refine XS.passE ?_
            refine XS.out ?_
            refine XS.then ?_
            refine TS.seq ?_
            refine TS.seq ?_
            have hq : (True) ∧ ((True) ∧ ((True) ∧ (True))) := ⟨trivial, ⟨trivial, ⟨trivial, trivial⟩⟩⟩
            refine TS.reg [] ?_ ?_
            · apply prop_of ?_ hq
              kernel_rfl
            refine XS.then ?_
            rcases bif_some h with ⟨c29, h⟩ | ⟨c30, h⟩
            · refine TS.cond (decide (((vout.length : Nat) : Int) > (512 : Int))) ?_ (fun e => ?_) (fun e => by rw [c29] at e; cases e)
              · kernel_rfl
              refine TS.seq ?_
              have hq : (True) ∧ ((True) ∧ (True)) := ⟨trivial, ⟨trivial, trivial⟩⟩
              refine TS.reg [] ?_ ?_
              · apply prop_of ?_ hq
                kernel_rfl
              refine XS.then ?_
              refine TS.ret ?_
              refine XS.passR ?_
              obtain rfl : (([] : List UInt8), (2 : Int)) = r := Option.some.inj h
              exact XS.fin [] ((True) ∧ ((True) ∧ (True))) (by kernel_rfl) ⟨trivial, ⟨trivial, trivial⟩⟩
            · refine TS.cond (decide (((vout.length : Nat) : Int) > (512 : Int))) ?_ (fun e => by rw [c30] at e; cases e) (fun e => ?_)
              · kernel_rfl
              refine TS.skip ?_
              refine XS.then ?_
              refine TS.seq ?_
              have hq : (True) ∧ ((True) ∧ ((True) ∧ (True))) := ⟨trivial, ⟨trivial, ⟨trivial, trivial⟩⟩⟩
              refine TS.reg [] ?_ ?_
              · apply prop_of ?_ hq
                kernel_rfl
              refine XS.then ?_
              refine TS.ret ?_
              obtain rfl : (vout, (0 : Int)) = r := Option.some.inj h
              exact XS.fin [] ((True) ∧ ((True) ∧ (True))) (by kernel_rfl) ⟨trivial, ⟨trivial, trivial⟩⟩

/-! slices.Equal[[]plugtree/api.Item,plugtree/api.Item] -/
def F45_l2 (n : Nat) (s1 : List (Int × Int)) (s2 : List (Int × Int)) (k45_2 : Int → Option Bool) : Int → Option Bool
  | x => (bif (decide (x < ((s1.length : Nat) : Int))) then (bif inb x s1.length then (bif inb x s2.length then (bif (!(Sh.beq (.st (.pair (.int .i64) (.int .i64))) ((s1.getD x.toNat ((0 : Int), (0 : Int))).1, (s1.getD x.toNat ((0 : Int), (0 : Int))).2) ((s2.getD x.toNat ((0 : Int), (0 : Int))).1, (s2.getD x.toNat ((0 : Int), (0 : Int))).2))) then (some false) else (k45_2 (IntKind.wrap .i64 (x + (1 : Int))))) else none) else none) else (some true))
def F45 (n : Nat) (s1 : List (Int × Int)) (s2 : List (Int × Int)) : Option Bool := (bif (((s1.length : Nat) : Int) != ((s2.length : Nat) : Int)) then (some false) else (loopF (F45_l2 n s1 s2) n (0 : Int)))
theorem F45_ok (n : Nat) (s1 : List (Int × Int)) (s2 : List (Int × Int)) (r : Bool) (h : F45 n s1 s2 = some r) : PureC Try.prog 45 [(.sl (.st (.pair (.int .i64) (.int .i64))) s1), (.sl (.st (.pair (.int .i64) (.int .i64))) s2)] (.bool r) [] := by
  refine PureC.mkS Try.func45 rfl rfl ?_
  intro w0 fz0 hfz
  replace h : (bif (((s1.length : Nat) : Int) != ((s2.length : Nat) : Int)) then (some false) else (loopF (F45_l2 n s1 s2) n (0 : Int))) = some r := h
  refine TS.seq ?_
  have hq : (True) ∧ (True) := ⟨trivial, trivial⟩
  refine TS.reg [] ?_ ?_
  · apply prop_of ?_ hq
    kernel_rfl
  refine XS.then ?_
  refine TS.seq ?_
  refine TS.seq ?_
  have hq : (True) ∧ ((True) ∧ ((True) ∧ ((True) ∧ ((True) ∧ (True))))) := ⟨trivial, ⟨trivial, ⟨trivial, ⟨trivial, ⟨trivial, trivial⟩⟩⟩⟩⟩
  refine TS.reg [] ?_ ?_
  · apply prop_of ?_ hq
    kernel_rfl
  refine XS.then ?_
  rcases bif_some h with ⟨c1, h⟩ | ⟨c2, h⟩
  · refine TS.cond (((s1.length : Nat) : Int) != ((s2.length : Nat) : Int)) ?_ (fun e => ?_) (fun e => by rw [c1] at e; cases e)
    · kernel_rfl
    refine TS.seq ?_
    have hq : (True) ∧ (True) := ⟨trivial, trivial⟩
    refine TS.reg [] ?_ ?_
    · apply prop_of ?_ hq
      kernel_rfl
    refine XS.then ?_
    refine TS.ret ?_
    refine XS.passR ?_
    obtain rfl : false = r := Option.some.inj h
    exact XS.fin [] ((True) ∧ (True)) (by kernel_rfl) ⟨trivial, trivial⟩
  · refine TS.cond (((s1.length : Nat) : Int) != ((s2.length : Nat) : Int)) ?_ (fun e => by rw [c2] at e; cases e) (fun e => ?_)
    · kernel_rfl
    refine TS.skip ?_
    refine XS.then ?_
    refine TS.seq ?_
    refine TS.seq ?_
    have hq : (True) ∧ ((True) ∧ ((True) ∧ (True))) := ⟨trivial, ⟨trivial, ⟨trivial, trivial⟩⟩⟩
    refine TS.reg [] ?_ ?_
    · apply prop_of ?_ hq
      kernel_rfl
    refine XS.then ?_
    refine TS.block ?_
    refine TS.reLoop [] (mkMask 26 [0, 1, 12, 13]) (D := Int) (fun d => match d with | x => (mkTs 26 [(0, (.sl (.st (.pair (.int .i64) (.int .i64))) s1)), (1, (.sl (.st (.pair (.int .i64) (.int .i64))) s2)), (12, (.int .i64 ((s1.length : Nat) : Int))), (13, (.int .i64 x))], [])) (fun n' d => loopF (F45_l2 n s1 s2) n' d = some r) n (0 : Int) h ?_ (fun d => loopF_zero _ d r) ?_
    · kernel_rfl
    · rintro n2 x h
      replace h : (bif (decide (x < ((s1.length : Nat) : Int))) then (bif inb x s1.length then (bif inb x s2.length then (bif (!(Sh.beq (.st (.pair (.int .i64) (.int .i64))) ((s1.getD x.toNat ((0 : Int), (0 : Int))).1, (s1.getD x.toNat ((0 : Int), (0 : Int))).2) ((s2.getD x.toNat ((0 : Int), (0 : Int))).1, (s2.getD x.toNat ((0 : Int), (0 : Int))).2))) then (some false) else ((loopF (F45_l2 n s1 s2) n2) (IntKind.wrap .i64 (x + (1 : Int))))) else none) else none) else (some true)) = some r := h
      refine TS.seq ?_
      have hq : (True) ∧ (True) := ⟨trivial, trivial⟩
      refine TS.reg [] ?_ ?_
      · apply prop_of ?_ hq
        kernel_rfl
      refine XS.then ?_
      refine TS.seq ?_
      rcases bif_some h with ⟨c3, h⟩ | ⟨c4, h⟩
      · refine TS.cond (decide (x < ((s1.length : Nat) : Int))) ?_ (fun e => ?_) (fun e => by rw [c3] at e; cases e)
        · kernel_rfl
        refine TS.skip ?_
        refine XS.then ?_
        refine TS.seq ?_
        refine TS.block ?_
        refine TS.seq ?_
        have hq : (True) ∧ ((True) ∧ (True)) := ⟨trivial, ⟨trivial, trivial⟩⟩
        refine TS.reg [] ?_ ?_
        · apply prop_of ?_ hq
          kernel_rfl
        refine XS.then ?_
        refine TS.seq ?_
        obtain ⟨t5, h⟩ := test_some h
        obtain ⟨t6, h⟩ := test_some h
        have hq : ((True) ∧ ((True) ∧ ((inR x s1.length) ∧ ((True) ∧ ((True) ∧ ((True) ∧ ((inR x s2.length) ∧ ((True) ∧ ((True) ∧ (True)))))))))) ∧ (True) := ⟨⟨trivial, ⟨trivial, ⟨inb_ok t5, ⟨trivial, ⟨trivial, ⟨trivial, ⟨inb_ok t6, ⟨trivial, ⟨trivial, trivial⟩⟩⟩⟩⟩⟩⟩⟩⟩, trivial⟩
        refine TS.draw 9 [] [] (by kernel_rfl) ?_ ?_
        · apply prop_of ?_ hq
          kernel_rfl
        refine XS.then ?_
        rcases bif_some h with ⟨c7, h⟩ | ⟨c8, h⟩
        · refine TS.cond (!(Sh.beq (.st (.pair (.int .i64) (.int .i64))) ((s1.getD x.toNat ((0 : Int), (0 : Int))).1, (s1.getD x.toNat ((0 : Int), (0 : Int))).2) ((s2.getD x.toNat ((0 : Int), (0 : Int))).1, (s2.getD x.toNat ((0 : Int), (0 : Int))).2))) ?_ (fun e => ?_) (fun e => by rw [c7] at e; cases e)
          · kernel_rfl
          refine TS.seq ?_
          have hq : (True) ∧ (True) := ⟨trivial, trivial⟩
          refine TS.reg [] ?_ ?_
          · apply prop_of ?_ hq
            kernel_rfl
          refine XS.then ?_
          refine TS.ret ?_
          refine XS.blockRet ?_
          refine XS.passR ?_
          refine XS.passR ?_
          refine XS.blockRet ?_
          refine XS.passR ?_
          obtain rfl : false = r := Option.some.inj h
          exact XS.fin [] ((True) ∧ (True)) (by kernel_rfl) ⟨trivial, trivial⟩
        · refine TS.cond (!(Sh.beq (.st (.pair (.int .i64) (.int .i64))) ((s1.getD x.toNat ((0 : Int), (0 : Int))).1, (s1.getD x.toNat ((0 : Int), (0 : Int))).2) ((s2.getD x.toNat ((0 : Int), (0 : Int))).1, (s2.getD x.toNat ((0 : Int), (0 : Int))).2))) ?_ (fun e => by rw [c8] at e; cases e) (fun e => ?_)
          · kernel_rfl
          refine TS.skip ?_
          refine XS.blockEnd ?_
          refine XS.then ?_
          have hq : (True) ∧ ((True) ∧ (True)) := ⟨trivial, ⟨trivial, trivial⟩⟩
          refine TS.reg [] ?_ ?_
          · apply prop_of ?_ hq
            kernel_rfl
          refine XS.reAny [] (mkMask 26 [0, 1, 12, 13]) (IntKind.wrap .i64 (x + (1 : Int))) h ?_
          kernel_rfl
      · refine TS.cond (decide (x < ((s1.length : Nat) : Int))) ?_ (fun e => by rw [c4] at e; cases e) (fun e => ?_)
        · kernel_rfl
        refine TS.exit ?_
        refine XS.passE ?_
        refine XS.passE ?_
        refine XS.out ?_
        refine XS.then ?_
        refine TS.seq ?_
        have hq : (True) ∧ (True) := ⟨trivial, trivial⟩
        refine TS.reg [] ?_ ?_
        · apply prop_of ?_ hq
          kernel_rfl
        refine XS.then ?_
        refine TS.ret ?_
        obtain rfl : true = r := Option.some.inj h
        exact XS.fin [] ((True) ∧ (True)) (by kernel_rfl) ⟨trivial, trivial⟩

/-! plugtree/pluglaw.ReportItems -/
def F9 (n : Nat) (s : List UInt8) (l : List (Int × Int)) : Option Bool := ((F41 n s).bind fun y_2 => ((F42 n s).bind fun y_3 => ((F43 n l).bind fun y_4 => ((F44 n l).bind fun y_5 => ((F45 n y_2.2 y_3.2).bind fun y_6 => (bif y_6 then (bif (y_2.1 == y_3.1) then (bif (y_4.1 == y_5.1) then (some (y_4.2 == y_5.2)) else (some false)) else (some false)) else (some false)))))))
theorem F9_ok (n : Nat) (s : List UInt8) (l : List (Int × Int)) (r : Bool) (h : F9 n s l = some r) : PureC Try.prog 9 [(.str s), (.sl (.st (.pair (.int .i64) (.int .i64))) l)] (.bool r) [] := by
  refine PureC.mkS Try.func9 rfl rfl ?_
  intro w0 fz0 hfz
  replace h : ((F41 n s).bind fun y_2 => ((F42 n s).bind fun y_3 => ((F43 n l).bind fun y_4 => ((F44 n l).bind fun y_5 => ((F45 n y_2.2 y_3.2).bind fun y_6 => (bif y_6 then (bif (y_2.1 == y_3.1) then (bif (y_4.1 == y_5.1) then (some (y_4.2 == y_5.2)) else (some false)) else (some false)) else (some false))))))) = some r := h
  refine TS.seq ?_
  have hq : (True) ∧ (True) := ⟨trivial, trivial⟩
  refine TS.reg [] ?_ ?_
  · apply prop_of ?_ hq
    kernel_rfl
  refine XS.then ?_
  refine TS.seq ?_
  obtain ⟨y_2, hx1, h⟩ := bind_some' h
  have hq : (True) ∧ ((PureC Try.prog 41 [(.str s)] (.tup (.cons (.row 0) (.cons (.int .i64 y_2.1) .nil))) [(.row 64 (.st (.pair (.int .i64) (.int .i64))) y_2.2)]) ∧ ((True) ∧ ((True) ∧ ((True) ∧ ((True) ∧ ((True) ∧ (True))))))) := ⟨trivial, ⟨F41_ok n s y_2 hx1, ⟨trivial, ⟨trivial, ⟨trivial, ⟨trivial, ⟨trivial, trivial⟩⟩⟩⟩⟩⟩⟩
  refine TS.reg [.none, (.call (.tup (.cons (.row 0) (.cons (.int .i64 y_2.1) .nil))) [(.row 64 (.st (.pair (.int .i64) (.int .i64))) y_2.2)])] ?_ ?_
  · apply prop_of ?_ hq
    kernel_rfl
  refine XS.then ?_
  refine TS.seq ?_
  obtain ⟨y_3, hx2, h⟩ := bind_some' h
  have hq : (True) ∧ ((PureC Try.prog 42 [(.str s)] (.tup (.cons (.row 0) (.cons (.int .i64 y_3.1) .nil))) [(.row 64 (.st (.pair (.int .i64) (.int .i64))) y_3.2)]) ∧ ((True) ∧ ((True) ∧ ((True) ∧ ((True) ∧ ((True) ∧ (True))))))) := ⟨trivial, ⟨F42_ok n s y_3 hx2, ⟨trivial, ⟨trivial, ⟨trivial, ⟨trivial, ⟨trivial, trivial⟩⟩⟩⟩⟩⟩⟩
  refine TS.reg [.none, (.call (.tup (.cons (.row 0) (.cons (.int .i64 y_3.1) .nil))) [(.row 64 (.st (.pair (.int .i64) (.int .i64))) y_3.2)])] ?_ ?_
  · apply prop_of ?_ hq
    kernel_rfl
  refine XS.then ?_
  refine TS.seq ?_
  obtain ⟨y_4, hx3, h⟩ := bind_some' h
  have hq : (True) ∧ ((PureC Try.prog 43 [(.sl (.st (.pair (.int .i64) (.int .i64))) l)] (.tup (.cons (.str y_4.1) (.cons (.int .i64 y_4.2) .nil))) []) ∧ ((True) ∧ ((True) ∧ ((True) ∧ ((True) ∧ ((True) ∧ (True))))))) := ⟨trivial, ⟨F43_ok n l y_4 hx3, ⟨trivial, ⟨trivial, ⟨trivial, ⟨trivial, ⟨trivial, trivial⟩⟩⟩⟩⟩⟩⟩
  refine TS.reg [.none, (.call (.tup (.cons (.str y_4.1) (.cons (.int .i64 y_4.2) .nil))) [])] ?_ ?_
  · apply prop_of ?_ hq
    kernel_rfl
  refine XS.then ?_
  refine TS.seq ?_
  obtain ⟨y_5, hx4, h⟩ := bind_some' h
  have hq : (True) ∧ ((PureC Try.prog 44 [(.sl (.st (.pair (.int .i64) (.int .i64))) l)] (.tup (.cons (.str y_5.1) (.cons (.int .i64 y_5.2) .nil))) []) ∧ ((True) ∧ ((True) ∧ ((True) ∧ ((True) ∧ ((True) ∧ (True))))))) := ⟨trivial, ⟨F44_ok n l y_5 hx4, ⟨trivial, ⟨trivial, ⟨trivial, ⟨trivial, ⟨trivial, trivial⟩⟩⟩⟩⟩⟩⟩
  refine TS.reg [.none, (.call (.tup (.cons (.str y_5.1) (.cons (.int .i64 y_5.2) .nil))) [])] ?_ ?_
  · apply prop_of ?_ hq
    kernel_rfl
  refine XS.then ?_
  refine TS.seq ?_
  obtain ⟨y_6, hx5, h⟩ := bind_some' h
  rcases bif_some h with ⟨c6, h⟩ | ⟨c7, h⟩
  · rcases bif_some h with ⟨c8, h⟩ | ⟨c9, h⟩
    · rcases bif_some h with ⟨c10, h⟩ | ⟨c11, h⟩
      · have hq : (True) ∧ ((True) ∧ ((((True) ∧ ((True) ∧ (True))) ∧ PureC Try.prog 45 [(.sl (.st (.pair (.int .i64) (.int .i64))) y_2.2), (.sl (.st (.pair (.int .i64) (.int .i64))) y_3.2)] (.bool y_6) []) ∧ (((True) ∧ y_6 = true) ∧ ((True) ∧ ((True) ∧ ((True) ∧ ((True) ∧ (((True) ∧ (y_2.1 == y_3.1) = true) ∧ ((True) ∧ ((True) ∧ ((True) ∧ ((True) ∧ (((True) ∧ (y_4.1 == y_5.1) = true) ∧ ((True) ∧ ((True) ∧ ((True) ∧ ((True) ∧ ((True) ∧ (True))))))))))))))))))) := ⟨trivial, ⟨trivial, ⟨⟨⟨trivial, ⟨trivial, trivial⟩⟩, F45_ok n y_2.2 y_3.2 y_6 hx5⟩, ⟨⟨trivial, c6⟩, ⟨trivial, ⟨trivial, ⟨trivial, ⟨trivial, ⟨⟨trivial, c8⟩, ⟨trivial, ⟨trivial, ⟨trivial, ⟨trivial, ⟨⟨trivial, c10⟩, ⟨trivial, ⟨trivial, ⟨trivial, ⟨trivial, ⟨trivial, trivial⟩⟩⟩⟩⟩⟩⟩⟩⟩⟩⟩⟩⟩⟩⟩⟩⟩⟩⟩
        refine TS.reg [.none, .none, (.call (.bool y_6) []), .dec true, .none, .none, .none, .none, .dec true, .none, .none, .none, .none, .dec true] ?_ ?_
        · apply prop_of ?_ hq
          kernel_rfl
        refine XS.then ?_
        refine TS.ret ?_
        obtain rfl : (y_4.2 == y_5.2) = r := Option.some.inj h
        exact XS.fin [] ((True) ∧ (True)) (by kernel_rfl) ⟨trivial, trivial⟩
      · have hq : (True) ∧ ((True) ∧ ((((True) ∧ ((True) ∧ (True))) ∧ PureC Try.prog 45 [(.sl (.st (.pair (.int .i64) (.int .i64))) y_2.2), (.sl (.st (.pair (.int .i64) (.int .i64))) y_3.2)] (.bool y_6) []) ∧ (((True) ∧ y_6 = true) ∧ ((True) ∧ ((True) ∧ ((True) ∧ ((True) ∧ (((True) ∧ (y_2.1 == y_3.1) = true) ∧ ((True) ∧ ((True) ∧ ((True) ∧ ((True) ∧ (((True) ∧ (y_4.1 == y_5.1) = false) ∧ ((True) ∧ ((True) ∧ (True)))))))))))))))) := ⟨trivial, ⟨trivial, ⟨⟨⟨trivial, ⟨trivial, trivial⟩⟩, F45_ok n y_2.2 y_3.2 y_6 hx5⟩, ⟨⟨trivial, c6⟩, ⟨trivial, ⟨trivial, ⟨trivial, ⟨trivial, ⟨⟨trivial, c8⟩, ⟨trivial, ⟨trivial, ⟨trivial, ⟨trivial, ⟨⟨trivial, c11⟩, ⟨trivial, ⟨trivial, trivial⟩⟩⟩⟩⟩⟩⟩⟩⟩⟩⟩⟩⟩⟩⟩⟩
        refine TS.reg [.none, .none, (.call (.bool y_6) []), .dec true, .none, .none, .none, .none, .dec true, .none, .none, .none, .none, .dec false] ?_ ?_
        · apply prop_of ?_ hq
          kernel_rfl
        refine XS.then ?_
        refine TS.ret ?_
        obtain rfl : false = r := Option.some.inj h
        exact XS.fin [] ((True) ∧ (True)) (by kernel_rfl) ⟨trivial, trivial⟩
    · have hq : (True) ∧ ((True) ∧ ((((True) ∧ ((True) ∧ (True))) ∧ PureC Try.prog 45 [(.sl (.st (.pair (.int .i64) (.int .i64))) y_2.2), (.sl (.st (.pair (.int .i64) (.int .i64))) y_3.2)] (.bool y_6) []) ∧ (((True) ∧ y_6 = true) ∧ ((True) ∧ ((True) ∧ ((True) ∧ ((True) ∧ (((True) ∧ (y_2.1 == y_3.1) = false) ∧ ((True) ∧ ((True) ∧ ((True) ∧ ((True) ∧ (True))))))))))))) := ⟨trivial, ⟨trivial, ⟨⟨⟨trivial, ⟨trivial, trivial⟩⟩, F45_ok n y_2.2 y_3.2 y_6 hx5⟩, ⟨⟨trivial, c6⟩, ⟨trivial, ⟨trivial, ⟨trivial, ⟨trivial, ⟨⟨trivial, c9⟩, ⟨trivial, ⟨trivial, ⟨trivial, ⟨trivial, trivial⟩⟩⟩⟩⟩⟩⟩⟩⟩⟩⟩⟩⟩
      refine TS.reg [.none, .none, (.call (.bool y_6) []), .dec true, .none, .none, .none, .none, .dec false] ?_ ?_
      · apply prop_of ?_ hq
        kernel_rfl
      refine XS.then ?_
      refine TS.ret ?_
      obtain rfl : false = r := Option.some.inj h
      exact XS.fin [] ((True) ∧ (True)) (by kernel_rfl) ⟨trivial, trivial⟩
  · have hq : (True) ∧ ((True) ∧ ((((True) ∧ ((True) ∧ (True))) ∧ PureC Try.prog 45 [(.sl (.st (.pair (.int .i64) (.int .i64))) y_2.2), (.sl (.st (.pair (.int .i64) (.int .i64))) y_3.2)] (.bool y_6) []) ∧ (((True) ∧ y_6 = false) ∧ ((True) ∧ ((True) ∧ ((True) ∧ ((True) ∧ ((True) ∧ ((True) ∧ (True)))))))))) := ⟨trivial, ⟨trivial, ⟨⟨⟨trivial, ⟨trivial, trivial⟩⟩, F45_ok n y_2.2 y_3.2 y_6 hx5⟩, ⟨⟨trivial, c7⟩, ⟨trivial, ⟨trivial, ⟨trivial, ⟨trivial, ⟨trivial, ⟨trivial, trivial⟩⟩⟩⟩⟩⟩⟩⟩⟩⟩
    refine TS.reg [.none, .none, (.call (.bool y_6) []), .dec false] ?_ ?_
    · apply prop_of ?_ hq
      kernel_rfl
    refine XS.then ?_
    refine TS.ret ?_
    obtain rfl : false = r := Option.some.inj h
    exact XS.fin [] ((True) ∧ (True)) (by kernel_rfl) ⟨trivial, trivial⟩
end Go.Proofs.Ytgcdohclbkmmdaa
