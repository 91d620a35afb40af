/- Functions of the program, as functions of values. -/
import Derived.Test.YtbeilpecdimheaaAm24
import Derived.Test.YtbeilpecdimheaaChecked
namespace Go.Proofs.Ytbeilpecdimheaa
open Go Go.RowKit
set_option linter.unusedVariables false
set_option maxRecDepth 100000

/-! plugtree/desc.Split -/
def F26_l2 (n : Nat) (k26_2 : ((List UInt8) × (List (List UInt8))) → Option (Int × (List (List UInt8)))) : ((List UInt8) × (List (List UInt8))) → Option (Int × (List (List UInt8)))
  | (s_2, m0) => (bif (!(s_2 == ([] : List UInt8))) then (bif inb (0 : Int) s_2.length then (bif (decide ((IntKind.wrap .i64 ((((s_2.getD 0 0).toNat : Nat) : Int))) < (2 : Int))) then (some ((4 : Int), ([] : List (List UInt8)))) else (bif (decide ((IntKind.wrap .i64 ((((s_2.getD 0 0).toNat : Nat) : Int))) > ((s_2.length : Nat) : Int))) then (some ((3 : Int), ([] : List (List UInt8)))) else (bif subB s_2.length none (some (IntKind.wrap .i64 ((((s_2.getD 0 0).toNat : Nat) : Int)))) then (bif (decide (m0.length + [(s_2.take (IntKind.wrap .i64 ((((s_2.getD 0 0).toNat : Nat) : Int))).toNat)].length ≤ 17179869184)) then (bif subB s_2.length (some (IntKind.wrap .i64 ((((s_2.getD 0 0).toNat : Nat) : Int)))) none then (k26_2 ((s_2.drop (IntKind.wrap .i64 ((((s_2.getD 0 0).toNat : Nat) : Int))).toNat), (m0 ++ [(s_2.take (IntKind.wrap .i64 ((((s_2.getD 0 0).toNat : Nat) : Int))).toNat)]))) else none) else none) else none))) else none) else (some ((0 : Int), m0)))
def F26 (n : Nat) (s : List UInt8) : Option (Int × (List (List UInt8))) := (bif (decide (((s.length : Nat) : Int) > (512 : Int))) then (some ((2 : Int), ([] : List (List UInt8)))) else (loopF (F26_l2 n) n (s, ([] : List (List UInt8)))))
theorem F26_ok (n : Nat) (s : List UInt8) (r : Int × (List (List UInt8))) (h : F26 n s = some r) : PureC Try.prog 26 [(.str s)] (.tup (.cons (.row 0) (.cons (.int .i64 r.1) .nil))) [(.row 9 .str r.2)] := by
  refine PureC.mkS Try.func26 rfl rfl ?_
  intro w0 fz0 hfz
  replace h : (bif (decide (((s.length : Nat) : Int) > (512 : Int))) then (some ((2 : Int), ([] : List (List UInt8)))) else (loopF (F26_l2 n) n (s, ([] : List (List UInt8))))) = some r := h
  refine TS.seq ?_
  have hq : (True) ∧ ((True) ∧ (True)) := ⟨trivial, ⟨trivial, trivial⟩⟩
  refine TS.reg [] ?_ ?_
  · apply prop_of ?_ hq
    kernel_rfl
  refine XS.then ?_
  refine TS.seq ?_
  refine TS.seq ?_
  have hq : (True) ∧ ((True) ∧ ((True) ∧ (True))) := ⟨trivial, ⟨trivial, ⟨trivial, trivial⟩⟩⟩
  refine TS.reg [] ?_ ?_
  · apply prop_of ?_ hq
    kernel_rfl
  refine XS.then ?_
  rcases bif_some h with ⟨c1, h⟩ | ⟨c2, h⟩
  · refine TS.cond (decide (((s.length : Nat) : Int) > (512 : Int))) ?_ (fun e => ?_) (fun e => by rw [c1] at e; cases e)
    · kernel_rfl
    refine TS.seq ?_
    have hq : (True) ∧ ((True) ∧ (True)) := ⟨trivial, ⟨trivial, trivial⟩⟩
    refine TS.reg [] ?_ ?_
    · apply prop_of ?_ hq
      kernel_rfl
    refine XS.then ?_
    refine TS.ret ?_
    refine XS.passR ?_
    obtain rfl : ((2 : Int), ([] : List (List UInt8))) = r := Option.some.inj h
    refine XS.wk (.row false 2 [] 9 .str) ?_
    exact XS.fin [0] ((True) ∧ ((True) ∧ (True))) (by kernel_rfl) ⟨trivial, ⟨trivial, trivial⟩⟩
  · refine TS.cond (decide (((s.length : Nat) : Int) > (512 : Int))) ?_ (fun e => by rw [c2] at e; cases e) (fun e => ?_)
    · kernel_rfl
    refine TS.skip ?_
    refine XS.then ?_
    refine TS.seq ?_
    have hq : (True) ∧ (True) := ⟨trivial, trivial⟩
    refine TS.reg [] ?_ ?_
    · apply prop_of ?_ hq
      kernel_rfl
    refine XS.then ?_
    refine TS.seq ?_
    refine TS.block ?_
    refine TS.wk (.row false 4 [] 9 .str) ?_
    refine TS.reLoop [0] (mkMask 32 [0, 4]) (D := (List UInt8) × (List (List UInt8))) (fun d => match d with | (s_2, m0) => (mkTs 32 [(0, (.str s_2)), (4, (.row 0))], [(.row 9 .str m0)])) (fun n' d => loopF (F26_l2 n) n' d = some r) n (s, ([] : List (List UInt8))) h ?_ (fun d => loopF_zero _ d r) ?_
    · kernel_rfl
    · rintro n2 ⟨s_2, m0⟩ h
      replace h : (bif (!(s_2 == ([] : List UInt8))) then (bif inb (0 : Int) s_2.length then (bif (decide ((IntKind.wrap .i64 ((((s_2.getD 0 0).toNat : Nat) : Int))) < (2 : Int))) then (some ((4 : Int), ([] : List (List UInt8)))) else (bif (decide ((IntKind.wrap .i64 ((((s_2.getD 0 0).toNat : Nat) : Int))) > ((s_2.length : Nat) : Int))) then (some ((3 : Int), ([] : List (List UInt8)))) else (bif subB s_2.length none (some (IntKind.wrap .i64 ((((s_2.getD 0 0).toNat : Nat) : Int)))) then (bif (decide (m0.length + [(s_2.take (IntKind.wrap .i64 ((((s_2.getD 0 0).toNat : Nat) : Int))).toNat)].length ≤ 17179869184)) then (bif subB s_2.length (some (IntKind.wrap .i64 ((((s_2.getD 0 0).toNat : Nat) : Int)))) none then ((loopF (F26_l2 n) n2) ((s_2.drop (IntKind.wrap .i64 ((((s_2.getD 0 0).toNat : Nat) : Int))).toNat), (m0 ++ [(s_2.take (IntKind.wrap .i64 ((((s_2.getD 0 0).toNat : Nat) : Int))).toNat)]))) else none) else none) else none))) else none) else (some ((0 : Int), m0))) = some r := h
      refine TS.seq ?_
      refine TS.seq ?_
      have hq : (True) ∧ ((True) ∧ (True)) := ⟨trivial, ⟨trivial, trivial⟩⟩
      refine TS.reg [] ?_ ?_
      · apply prop_of ?_ hq
        kernel_rfl
      refine XS.then ?_
      rcases bif_some h with ⟨c3, h⟩ | ⟨c4, h⟩
      · refine TS.cond (!(s_2 == ([] : List UInt8))) ?_ (fun e => ?_) (fun e => by rw [c3] at e; cases e)
        · kernel_rfl
        refine TS.skip ?_
        refine XS.then ?_
        refine TS.block ?_
        refine TS.seq ?_
        obtain ⟨t5, h⟩ := test_some h
        have hq : (True) ∧ ((inR (0 : Int) s_2.length) ∧ ((True) ∧ ((True) ∧ (True)))) := ⟨trivial, ⟨inb_ok t5, ⟨trivial, ⟨trivial, trivial⟩⟩⟩⟩
        refine TS.reg [] ?_ ?_
        · apply prop_of ?_ hq
          kernel_rfl
        refine XS.then ?_
        refine TS.seq ?_
        refine TS.block ?_
        refine TS.seq ?_
        have hq : (True) ∧ ((True) ∧ ((True) ∧ (True))) := ⟨trivial, ⟨trivial, ⟨trivial, trivial⟩⟩⟩
        refine TS.reg [] ?_ ?_
        · apply prop_of ?_ hq
          kernel_rfl
        refine XS.then ?_
        rcases bif_some h with ⟨c6, h⟩ | ⟨c7, h⟩
        · refine TS.cond (decide ((IntKind.wrap .i64 ((((s_2.getD 0 0).toNat : Nat) : Int))) < (2 : Int))) ?_ (fun e => ?_) (fun e => by rw [c6] at e; cases e)
          · kernel_rfl
          refine TS.seq ?_
          have hq : (True) ∧ ((True) ∧ (True)) := ⟨trivial, ⟨trivial, trivial⟩⟩
          refine TS.reg [] ?_ ?_
          · apply prop_of ?_ hq
            kernel_rfl
          refine XS.then ?_
          refine TS.ret ?_
          refine XS.blockRet ?_
          refine XS.passR ?_
          refine XS.blockRet ?_
          refine XS.passR ?_
          refine XS.blockRet ?_
          refine XS.passR ?_
          obtain rfl : ((4 : Int), ([] : List (List UInt8))) = r := Option.some.inj h
          refine XS.wk (.row false 2 [] 9 .str) ?_
          exact XS.fin [1] ((True) ∧ ((True) ∧ (True))) (by kernel_rfl) ⟨trivial, ⟨trivial, trivial⟩⟩
        · refine TS.cond (decide ((IntKind.wrap .i64 ((((s_2.getD 0 0).toNat : Nat) : Int))) < (2 : Int))) ?_ (fun e => by rw [c7] at e; cases e) (fun e => ?_)
          · kernel_rfl
          refine TS.seq ?_
          have hq : (True) ∧ ((True) ∧ ((True) ∧ ((True) ∧ ((True) ∧ (True))))) := ⟨trivial, ⟨trivial, ⟨trivial, ⟨trivial, ⟨trivial, trivial⟩⟩⟩⟩⟩
          refine TS.reg [] ?_ ?_
          · apply prop_of ?_ hq
            kernel_rfl
          refine XS.then ?_
          rcases bif_some h with ⟨c8, h⟩ | ⟨c9, h⟩
          · refine TS.cond (decide ((IntKind.wrap .i64 ((((s_2.getD 0 0).toNat : Nat) : Int))) > ((s_2.length : Nat) : Int))) ?_ (fun e => ?_) (fun e => by rw [c8] at e; cases e)
            · kernel_rfl
            refine TS.seq ?_
            have hq : (True) ∧ ((True) ∧ (True)) := ⟨trivial, ⟨trivial, trivial⟩⟩
            refine TS.reg [] ?_ ?_
            · apply prop_of ?_ hq
              kernel_rfl
            refine XS.then ?_
            refine TS.ret ?_
            refine XS.blockRet ?_
            refine XS.passR ?_
            refine XS.blockRet ?_
            refine XS.passR ?_
            refine XS.blockRet ?_
            refine XS.passR ?_
            obtain rfl : ((3 : Int), ([] : List (List UInt8))) = r := Option.some.inj h
            refine XS.wk (.row false 2 [] 9 .str) ?_
            exact XS.fin [1] ((True) ∧ ((True) ∧ (True))) (by kernel_rfl) ⟨trivial, ⟨trivial, trivial⟩⟩
          · refine TS.cond (decide ((IntKind.wrap .i64 ((((s_2.getD 0 0).toNat : Nat) : Int))) > ((s_2.length : Nat) : Int))) ?_ (fun e => by rw [c9] at e; cases e) (fun e => ?_)
            · kernel_rfl
            refine TS.skip ?_
            refine XS.blockEnd ?_
            refine XS.then ?_
            refine TS.seq ?_
            obtain ⟨t10, h⟩ := test_some h
            obtain ⟨t11, h⟩ := test_some h
            have hq : (True) ∧ ((True) ∧ ((True) ∧ ((subC s_2.length none (some (IntKind.wrap .i64 ((((s_2.getD 0 0).toNat : Nat) : Int))))) ∧ (((0 < 1 ∧ True) ∧ (True)) ∧ ((m0.length + [(s_2.take (IntKind.wrap .i64 ((((s_2.getD 0 0).toNat : Nat) : Int))).toNat)].length ≤ 17179869184) ∧ ((True) ∧ (True))))))) := ⟨trivial, ⟨trivial, ⟨trivial, ⟨subB_ok t10, ⟨⟨⟨by decide, trivial⟩, trivial⟩, ⟨of_decide_eq_true t11, ⟨trivial, trivial⟩⟩⟩⟩⟩⟩⟩
            refine TS.reg [] ?_ ?_
            · apply prop_of ?_ hq
              kernel_rfl
            refine XS.then ?_
            obtain ⟨t12, h⟩ := test_some h
            have hq : (True) ∧ ((True) ∧ ((subC s_2.length (some (IntKind.wrap .i64 ((((s_2.getD 0 0).toNat : Nat) : Int)))) none) ∧ ((True) ∧ (True)))) := ⟨trivial, ⟨trivial, ⟨subB_ok t12, ⟨trivial, trivial⟩⟩⟩⟩
            refine TS.reg [] ?_ ?_
            · apply prop_of ?_ hq
              kernel_rfl
            refine XS.blockEnd ?_
            refine XS.reAny [2] (mkMask 32 [0, 4]) ((s_2.drop (IntKind.wrap .i64 ((((s_2.getD 0 0).toNat : Nat) : Int))).toNat), (m0 ++ [(s_2.take (IntKind.wrap .i64 ((((s_2.getD 0 0).toNat : Nat) : Int))).toNat)])) h ?_
            kernel_rfl
      · refine TS.cond (!(s_2 == ([] : List UInt8))) ?_ (fun e => by rw [c4] at e; cases e) (fun e => ?_)
        · kernel_rfl
        refine TS.exit ?_
        refine XS.passE ?_
        refine XS.passE ?_
        refine XS.out ?_
        refine XS.then ?_
        refine TS.seq ?_
        have hq : (True) ∧ ((True) ∧ ((True) ∧ (True))) := ⟨trivial, ⟨trivial, ⟨trivial, trivial⟩⟩⟩
        refine TS.reg [] ?_ ?_
        · apply prop_of ?_ hq
          kernel_rfl
        refine XS.then ?_
        refine TS.ret ?_
        obtain rfl : ((0 : Int), m0) = r := Option.some.inj h
        exact XS.fin [0] ((True) ∧ ((True) ∧ (True))) (by kernel_rfl) ⟨trivial, ⟨trivial, trivial⟩⟩

/-! plugtree/plugref.Split -/
def F27_j26 (n : Nat) (k27_25 : (Int × (List (List UInt8))) → Option (Int × (List (List UInt8)))) (s : List UInt8) (m0 : List Int) (x : Int) (m1 : List (List UInt8)) : Int → Option (Int × (List (List UInt8)))
  | b => (bif subB s.length (some (m0.getD x.toNat (0 : Int))) (some b) then (bif (decide (m1.length + [((s.take b.toNat).drop (m0.getD x.toNat (0 : Int)).toNat)].length ≤ 17179869184)) then (k27_25 ((IntKind.wrap .i64 (x + (1 : Int))), (m1 ++ [((s.take b.toNat).drop (m0.getD x.toNat (0 : Int)).toNat)]))) else none) else none)
def F27_l25 (n : Nat) (s : List UInt8) (m0 : List Int) (k27_25 : (Int × (List (List UInt8))) → Option (Int × (List (List UInt8)))) : (Int × (List (List UInt8))) → Option (Int × (List (List UInt8)))
  | (x, m1) => (bif (decide (x < ((m0.length : Nat) : Int))) then (bif inb x m0.length then (bif (decide ((IntKind.wrap .i64 (x + (1 : Int))) < ((m0.length : Nat) : Int))) then (bif inb (IntKind.wrap .i64 (x + (1 : Int))) m0.length then (F27_j26 n k27_25 s m0 x m1 (m0.getD ((IntKind.wrap .i64 (x + (1 : Int))).toNat) (0 : Int))) else none) else (F27_j26 n k27_25 s m0 x m1 ((s.length : Nat) : Int))) else none) else (some ((0 : Int), m1)))
def F27_l22 (n : Nat) (s : List UInt8) (k27_22 : (Int × (List Int)) → Option (Int × (List (List UInt8)))) : (Int × (List Int)) → Option (Int × (List (List UInt8)))
  | (vat, m0) => (bif (decide (vat < ((s.length : Nat) : Int))) then (bif inb vat s.length then (bif (decide ((((s.getD vat.toNat 0).toNat : Nat) : Int) < (2 : Int))) then (some ((4 : Int), ([] : List (List UInt8)))) else (bif (decide ((IntKind.wrap .i64 (((s.length : Nat) : Int) - vat)) < (IntKind.wrap .i64 ((((s.getD vat.toNat 0).toNat : Nat) : Int))))) then (some ((3 : Int), ([] : List (List UInt8)))) else (bif (decide (m0.length + [vat].length ≤ 17179869184)) then (k27_22 ((IntKind.wrap .i64 (vat + (IntKind.wrap .i64 ((((s.getD vat.toNat 0).toNat : Nat) : Int))))), (m0 ++ [vat]))) else none))) else none) else (loopF (F27_l25 n s m0) n ((0 : Int), ([] : List (List UInt8)))))
def F27 (n : Nat) (s : List UInt8) : Option (Int × (List (List UInt8))) := (bif (decide (((s.length : Nat) : Int) > (512 : Int))) then (some ((2 : Int), ([] : List (List UInt8)))) else (loopF (F27_l22 n s) n ((0 : Int), ([] : List Int))))
theorem F27_ok (n : Nat) (s : List UInt8) (r : Int × (List (List UInt8))) (h : F27 n s = some r) : PureC Try.prog 27 [(.str s)] (.tup (.cons (.row 0) (.cons (.int .i64 r.1) .nil))) [(.row 9 .str r.2)] := by
  refine PureC.mkS Try.func27 rfl rfl ?_
  intro w0 fz0 hfz
  replace h : (bif (decide (((s.length : Nat) : Int) > (512 : Int))) then (some ((2 : Int), ([] : List (List UInt8)))) else (loopF (F27_l22 n s) n ((0 : Int), ([] : List Int)))) = some r := h
  refine TS.seq ?_
  have hq : (True) ∧ ((True) ∧ (True)) := ⟨trivial, ⟨trivial, trivial⟩⟩
  refine TS.reg [] ?_ ?_
  · apply prop_of ?_ hq
    kernel_rfl
  refine XS.then ?_
  refine TS.seq ?_
  refine TS.seq ?_
  have hq : (True) ∧ ((True) ∧ ((True) ∧ (True))) := ⟨trivial, ⟨trivial, ⟨trivial, trivial⟩⟩⟩
  refine TS.reg [] ?_ ?_
  · apply prop_of ?_ hq
    kernel_rfl
  refine XS.then ?_
  rcases bif_some h with ⟨c1, h⟩ | ⟨c2, h⟩
  · refine TS.cond (decide (((s.length : Nat) : Int) > (512 : Int))) ?_ (fun e => ?_) (fun e => by rw [c1] at e; cases e)
    · kernel_rfl
    refine TS.seq ?_
    have hq : (True) ∧ ((True) ∧ (True)) := ⟨trivial, ⟨trivial, trivial⟩⟩
    refine TS.reg [] ?_ ?_
    · apply prop_of ?_ hq
      kernel_rfl
    refine XS.then ?_
    refine TS.ret ?_
    refine XS.passR ?_
    obtain rfl : ((2 : Int), ([] : List (List UInt8))) = r := Option.some.inj h
    refine XS.wk (.row false 2 [] 9 .str) ?_
    exact XS.fin [0] ((True) ∧ ((True) ∧ (True))) (by kernel_rfl) ⟨trivial, ⟨trivial, trivial⟩⟩
  · refine TS.cond (decide (((s.length : Nat) : Int) > (512 : Int))) ?_ (fun e => by rw [c2] at e; cases e) (fun e => ?_)
    · kernel_rfl
    refine TS.skip ?_
    refine XS.then ?_
    refine TS.seq ?_
    have hq : (True) ∧ ((True) ∧ (True)) := ⟨trivial, ⟨trivial, trivial⟩⟩
    refine TS.reg [] ?_ ?_
    · apply prop_of ?_ hq
      kernel_rfl
    refine XS.then ?_
    refine TS.seq ?_
    have hq : (True) ∧ (True) := ⟨trivial, trivial⟩
    refine TS.reg [] ?_ ?_
    · apply prop_of ?_ hq
      kernel_rfl
    refine XS.then ?_
    refine TS.seq ?_
    refine TS.block ?_
    refine TS.reLoop [0] (mkMask 69 [0, 4, 5]) (D := Int × (List Int)) (fun d => match d with | (vat, m0) => (mkTs 69 [(0, (.str s)), (4, (.row 0)), (5, (.int .i64 vat))], [(.row 3 (.int .i64) m0)])) (fun n' d => loopF (F27_l22 n s) n' d = some r) n ((0 : Int), ([] : List Int)) h ?_ (fun d => loopF_zero _ d r) ?_
    · kernel_rfl
    · rintro n22 ⟨vat, m0⟩ h
      replace h : (bif (decide (vat < ((s.length : Nat) : Int))) then (bif inb vat s.length then (bif (decide ((((s.getD vat.toNat 0).toNat : Nat) : Int) < (2 : Int))) then (some ((4 : Int), ([] : List (List UInt8)))) else (bif (decide ((IntKind.wrap .i64 (((s.length : Nat) : Int) - vat)) < (IntKind.wrap .i64 ((((s.getD vat.toNat 0).toNat : Nat) : Int))))) then (some ((3 : Int), ([] : List (List UInt8)))) else (bif (decide (m0.length + [vat].length ≤ 17179869184)) then ((loopF (F27_l22 n s) n22) ((IntKind.wrap .i64 (vat + (IntKind.wrap .i64 ((((s.getD vat.toNat 0).toNat : Nat) : Int))))), (m0 ++ [vat]))) else none))) else none) else (loopF (F27_l25 n s m0) n ((0 : Int), ([] : List (List UInt8))))) = some r := h
      refine TS.seq ?_
      refine TS.seq ?_
      have hq : (True) ∧ ((True) ∧ ((True) ∧ ((True) ∧ (True)))) := ⟨trivial, ⟨trivial, ⟨trivial, ⟨trivial, trivial⟩⟩⟩⟩
      refine TS.reg [] ?_ ?_
      · apply prop_of ?_ hq
        kernel_rfl
      refine XS.then ?_
      rcases bif_some h with ⟨c3, h⟩ | ⟨c4, h⟩
      · refine TS.cond (decide (vat < ((s.length : Nat) : Int))) ?_ (fun e => ?_) (fun e => by rw [c3] at e; cases e)
        · kernel_rfl
        refine TS.skip ?_
        refine XS.then ?_
        refine TS.block ?_
        refine TS.seq ?_
        refine TS.seq ?_
        obtain ⟨t5, h⟩ := test_some h
        have hq : (True) ∧ ((True) ∧ ((inR vat s.length) ∧ ((True) ∧ (True)))) := ⟨trivial, ⟨trivial, ⟨inb_ok t5, ⟨trivial, trivial⟩⟩⟩⟩
        refine TS.reg [] ?_ ?_
        · apply prop_of ?_ hq
          kernel_rfl
        refine XS.then ?_
        rcases bif_some h with ⟨c6, h⟩ | ⟨c7, h⟩
        · refine TS.cond (decide ((((s.getD vat.toNat 0).toNat : Nat) : Int) < (2 : Int))) ?_ (fun e => ?_) (fun e => by rw [c6] at e; cases e)
          · kernel_rfl
          refine TS.seq ?_
          have hq : (True) ∧ ((True) ∧ (True)) := ⟨trivial, ⟨trivial, trivial⟩⟩
          refine TS.reg [] ?_ ?_
          · apply prop_of ?_ hq
            kernel_rfl
          refine XS.then ?_
          refine TS.ret ?_
          refine XS.passR ?_
          refine XS.blockRet ?_
          refine XS.passR ?_
          refine XS.blockRet ?_
          refine XS.passR ?_
          obtain rfl : ((4 : Int), ([] : List (List UInt8))) = r := Option.some.inj h
          refine XS.wk (.row false 2 [] 9 .str) ?_
          exact XS.fin [1] ((True) ∧ ((True) ∧ (True))) (by kernel_rfl) ⟨trivial, ⟨trivial, trivial⟩⟩
        · refine TS.cond (decide ((((s.getD vat.toNat 0).toNat : Nat) : Int) < (2 : Int))) ?_ (fun e => by rw [c7] at e; cases e) (fun e => ?_)
          · kernel_rfl
          refine TS.skip ?_
          refine XS.then ?_
          refine TS.seq ?_
          refine TS.seq ?_
          have hq : (True) ∧ ((True) ∧ ((True) ∧ ((True) ∧ ((True) ∧ ((True) ∧ ((inR vat s.length) ∧ ((True) ∧ ((True) ∧ (True))))))))) := ⟨trivial, ⟨trivial, ⟨trivial, ⟨trivial, ⟨trivial, ⟨trivial, ⟨inb_ok t5, ⟨trivial, ⟨trivial, trivial⟩⟩⟩⟩⟩⟩⟩⟩⟩
          refine TS.reg [] ?_ ?_
          · apply prop_of ?_ hq
            kernel_rfl
          refine XS.then ?_
          rcases bif_some h with ⟨c8, h⟩ | ⟨c9, h⟩
          · refine TS.cond (decide ((IntKind.wrap .i64 (((s.length : Nat) : Int) - vat)) < (IntKind.wrap .i64 ((((s.getD vat.toNat 0).toNat : Nat) : Int))))) ?_ (fun e => ?_) (fun e => by rw [c8] at e; cases e)
            · kernel_rfl
            refine TS.seq ?_
            have hq : (True) ∧ ((True) ∧ (True)) := ⟨trivial, ⟨trivial, trivial⟩⟩
            refine TS.reg [] ?_ ?_
            · apply prop_of ?_ hq
              kernel_rfl
            refine XS.then ?_
            refine TS.ret ?_
            refine XS.passR ?_
            refine XS.blockRet ?_
            refine XS.passR ?_
            refine XS.blockRet ?_
            refine XS.passR ?_
            obtain rfl : ((3 : Int), ([] : List (List UInt8))) = r := Option.some.inj h
            refine XS.wk (.row false 2 [] 9 .str) ?_
            exact XS.fin [1] ((True) ∧ ((True) ∧ (True))) (by kernel_rfl) ⟨trivial, ⟨trivial, trivial⟩⟩
          · refine TS.cond (decide ((IntKind.wrap .i64 (((s.length : Nat) : Int) - vat)) < (IntKind.wrap .i64 ((((s.getD vat.toNat 0).toNat : Nat) : Int))))) ?_ (fun e => by rw [c9] at e; cases e) (fun e => ?_)
            · kernel_rfl
            refine TS.skip ?_
            refine XS.then ?_
            refine TS.seq ?_
            obtain ⟨t10, h⟩ := test_some h
            have hq : (True) ∧ ((True) ∧ (((0 < 1 ∧ True) ∧ (True)) ∧ ((m0.length + [vat].length ≤ 17179869184) ∧ ((True) ∧ (True))))) := ⟨trivial, ⟨trivial, ⟨⟨⟨by decide, trivial⟩, trivial⟩, ⟨of_decide_eq_true t10, ⟨trivial, trivial⟩⟩⟩⟩⟩
            refine TS.reg [] ?_ ?_
            · apply prop_of ?_ hq
              kernel_rfl
            refine XS.then ?_
            have hq : (True) ∧ ((True) ∧ ((True) ∧ ((inR vat s.length) ∧ ((True) ∧ ((True) ∧ ((True) ∧ (True))))))) := ⟨trivial, ⟨trivial, ⟨trivial, ⟨inb_ok t5, ⟨trivial, ⟨trivial, ⟨trivial, trivial⟩⟩⟩⟩⟩⟩⟩
            refine TS.reg [] ?_ ?_
            · apply prop_of ?_ hq
              kernel_rfl
            refine XS.blockEnd ?_
            refine XS.reAny [2] (mkMask 69 [0, 4, 5]) ((IntKind.wrap .i64 (vat + (IntKind.wrap .i64 ((((s.getD vat.toNat 0).toNat : Nat) : Int))))), (m0 ++ [vat])) h ?_
            kernel_rfl
      · refine TS.cond (decide (vat < ((s.length : Nat) : Int))) ?_ (fun e => by rw [c4] at e; cases e) (fun e => ?_)
        · kernel_rfl
        refine TS.exit ?_
        refine XS.passE ?_
        refine XS.passE ?_
        refine XS.out ?_
        refine XS.then ?_
        refine TS.seq ?_
        have hq : (True) ∧ (True) := ⟨trivial, trivial⟩
        refine TS.reg [] ?_ ?_
        · apply prop_of ?_ hq
          kernel_rfl
        refine XS.then ?_
        refine TS.seq ?_
        refine TS.seq ?_
        have hq : (True) ∧ ((True) ∧ ((True) ∧ (True))) := ⟨trivial, ⟨trivial, ⟨trivial, trivial⟩⟩⟩
        refine TS.reg [] ?_ ?_
        · apply prop_of ?_ hq
          kernel_rfl
        refine XS.then ?_
        refine TS.block ?_
        refine TS.wk (.row false 6 [] 9 .str) ?_
        refine TS.reLoop [0, 1] (mkMask 69 [0, 4, 6, 41, 42, 43]) (D := Int × (List (List UInt8))) (fun d => match d with | (x, m1) => (mkTs 69 [(0, (.str s)), (4, (.row 0)), (6, (.row 1)), (41, (.row 0)), (42, (.int .i64 ((m0.length : Nat) : Int))), (43, (.int .i64 x))], [(.row 3 (.int .i64) m0), (.row 9 .str m1)])) (fun n' d => loopF (F27_l25 n s m0) n' d = some r) n ((0 : Int), ([] : List (List UInt8))) h ?_ (fun d => loopF_zero _ d r) ?_
        · kernel_rfl
        · rintro n25 ⟨x, m1⟩ h
          replace h : (bif (decide (x < ((m0.length : Nat) : Int))) then (bif inb x m0.length then (bif (decide ((IntKind.wrap .i64 (x + (1 : Int))) < ((m0.length : Nat) : Int))) then (bif inb (IntKind.wrap .i64 (x + (1 : Int))) m0.length then (F27_j26 n (loopF (F27_l25 n s m0) n25) s m0 x m1 (m0.getD ((IntKind.wrap .i64 (x + (1 : Int))).toNat) (0 : Int))) else none) else (F27_j26 n (loopF (F27_l25 n s m0) n25) s m0 x m1 ((s.length : Nat) : Int))) else none) else (some ((0 : Int), m1))) = some r := h
          refine TS.seq ?_
          have hq : (True) ∧ (True) := ⟨trivial, trivial⟩
          refine TS.reg [] ?_ ?_
          · apply prop_of ?_ hq
            kernel_rfl
          refine XS.then ?_
          refine TS.seq ?_
          rcases bif_some h with ⟨c11, h⟩ | ⟨c12, h⟩
          · refine TS.cond (decide (x < ((m0.length : Nat) : Int))) ?_ (fun e => ?_) (fun e => by rw [c11] at e; cases e)
            · kernel_rfl
            refine TS.skip ?_
            refine XS.then ?_
            refine TS.seq ?_
            refine TS.block ?_
            refine TS.seq ?_
            obtain ⟨t13, h⟩ := test_some h
            have hq : (True) ∧ ((inR x m0.length) ∧ ((x.toNat < m0.length ∧ (True)) ∧ ((True) ∧ ((True) ∧ (True))))) := ⟨trivial, ⟨inb_ok t13, ⟨⟨inR_lt (inb_ok t13), trivial⟩, ⟨trivial, ⟨trivial, trivial⟩⟩⟩⟩⟩
            refine TS.reg [] ?_ ?_
            · apply prop_of ?_ hq
              kernel_rfl
            refine XS.then ?_
            refine TS.seq ?_
            have hq : (True) ∧ ((True) ∧ ((True) ∧ (True))) := ⟨trivial, ⟨trivial, ⟨trivial, trivial⟩⟩⟩
            refine TS.reg [] ?_ ?_
            · apply prop_of ?_ hq
              kernel_rfl
            refine XS.then ?_
            refine TS.seq ?_
            refine TS.seq ?_
            have hq : (True) ∧ ((True) ∧ ((True) ∧ ((True) ∧ ((True) ∧ (True))))) := ⟨trivial, ⟨trivial, ⟨trivial, ⟨trivial, ⟨trivial, trivial⟩⟩⟩⟩⟩
            refine TS.reg [] ?_ ?_
            · apply prop_of ?_ hq
              kernel_rfl
            refine XS.then ?_
            refine TS.cut (D := Int) (fun d => match d with | b => (mkTs 69 [(0, (.str s)), (4, (.row 0)), (6, (.row 1)), (8, (.int .i64 (m0.getD x.toNat (0 : Int)))), (9, (.int .i64 b)), (41, (.row 0)), (42, (.int .i64 ((m0.length : Nat) : Int))), (43, (.int .i64 x))], [(.row 3 (.int .i64) m0), (.row 9 .str m1)])) (fun d => F27_j26 n (loopF (F27_l25 n s m0) n25) s m0 x m1 d = some r) ?_ ?_
            · rintro b h
              replace h : (bif subB s.length (some (m0.getD x.toNat (0 : Int))) (some b) then (bif (decide (m1.length + [((s.take b.toNat).drop (m0.getD x.toNat (0 : Int)).toNat)].length ≤ 17179869184)) then ((loopF (F27_l25 n s m0) n25) ((IntKind.wrap .i64 (x + (1 : Int))), (m1 ++ [((s.take b.toNat).drop (m0.getD x.toNat (0 : Int)).toNat)]))) else none) else none) = some r := h
              refine XS.then ?_
              obtain ⟨t14, h⟩ := test_some h
              obtain ⟨t15, h⟩ := test_some h
              have hq : (True) ∧ ((True) ∧ ((True) ∧ ((True) ∧ ((subC s.length (some (m0.getD x.toNat (0 : Int))) (some b)) ∧ (((0 < 1 ∧ True) ∧ (True)) ∧ ((m1.length + [((s.take b.toNat).drop (m0.getD x.toNat (0 : Int)).toNat)].length ≤ 17179869184) ∧ ((True) ∧ (True)))))))) := ⟨trivial, ⟨trivial, ⟨trivial, ⟨trivial, ⟨subB_ok t14, ⟨⟨⟨by decide, trivial⟩, trivial⟩, ⟨of_decide_eq_true t15, ⟨trivial, trivial⟩⟩⟩⟩⟩⟩⟩⟩
              refine TS.reg [] ?_ ?_
              · apply prop_of ?_ hq
                kernel_rfl
              refine XS.blockEnd ?_
              refine XS.then ?_
              have hq : (True) ∧ ((True) ∧ (True)) := ⟨trivial, ⟨trivial, trivial⟩⟩
              refine TS.reg [] ?_ ?_
              · apply prop_of ?_ hq
                kernel_rfl
              refine XS.reAny [0, 3] (mkMask 69 [0, 4, 6, 41, 42, 43]) ((IntKind.wrap .i64 (x + (1 : Int))), (m1 ++ [((s.take b.toNat).drop (m0.getD x.toNat (0 : Int)).toNat)])) h ?_
              kernel_rfl
            · rcases bif_some h with ⟨c16, h⟩ | ⟨c17, h⟩
              · refine TS.cond (decide ((IntKind.wrap .i64 (x + (1 : Int))) < ((m0.length : Nat) : Int))) ?_ (fun e => ?_) (fun e => by rw [c16] at e; cases e)
                · kernel_rfl
                obtain ⟨t18, h⟩ := test_some h
                have hq : (True) ∧ ((True) ∧ ((True) ∧ ((inR (IntKind.wrap .i64 (x + (1 : Int))) m0.length) ∧ ((((IntKind.wrap .i64 (x + (1 : Int))).toNat) < m0.length ∧ (True)) ∧ ((True) ∧ (True)))))) := ⟨trivial, ⟨trivial, ⟨trivial, ⟨inb_ok t18, ⟨⟨inR_lt (inb_ok t18), trivial⟩, ⟨trivial, trivial⟩⟩⟩⟩⟩⟩
                refine TS.reg [] ?_ ?_
                · apply prop_of ?_ hq
                  kernel_rfl
                refine XS.reAny [0, 1] (mkMask 69 [0, 4, 6, 8, 9, 41, 42, 43]) (m0.getD ((IntKind.wrap .i64 (x + (1 : Int))).toNat) (0 : Int)) h ?_
                kernel_rfl
              · refine TS.cond (decide ((IntKind.wrap .i64 (x + (1 : Int))) < ((m0.length : Nat) : Int))) ?_ (fun e => by rw [c17] at e; cases e) (fun e => ?_)
                · kernel_rfl
                refine TS.skip ?_
                refine XS.reAny [0, 1] (mkMask 69 [0, 4, 6, 8, 9, 41, 42, 43]) ((s.length : Nat) : Int) h ?_
                kernel_rfl
          · refine TS.cond (decide (x < ((m0.length : Nat) : Int))) ?_ (fun e => by rw [c12] at e; cases e) (fun e => ?_)
            · kernel_rfl
            refine TS.exit ?_
            refine XS.passE ?_
            refine XS.passE ?_
            refine XS.out ?_
            refine XS.then ?_
            refine TS.seq ?_
            have hq : (True) ∧ ((True) ∧ ((True) ∧ (True))) := ⟨trivial, ⟨trivial, ⟨trivial, trivial⟩⟩⟩
            refine TS.reg [] ?_ ?_
            · apply prop_of ?_ hq
              kernel_rfl
            refine XS.then ?_
            refine TS.ret ?_
            obtain rfl : ((0 : Int), m1) = r := Option.some.inj h
            exact XS.fin [1] ((True) ∧ ((True) ∧ (True))) (by kernel_rfl) ⟨trivial, ⟨trivial, trivial⟩⟩

/-! slices.Equal[[]string,string] -/
def F28_l2 (n : Nat) (s1 : List (List UInt8)) (s2 : List (List UInt8)) (k28_2 : Int → Option Bool) : Int → Option Bool
  | x => (bif (decide (x < ((s1.length : Nat) : Int))) then (bif inb x s1.length then (bif inb x s2.length then (bif (!((s1.getD x.toNat ([] : List UInt8)) == (s2.getD x.toNat ([] : List UInt8)))) then (some false) else (k28_2 (IntKind.wrap .i64 (x + (1 : Int))))) else none) else none) else (some true))
def F28 (n : Nat) (s1 : List (List UInt8)) (s2 : List (List UInt8)) : Option Bool := (bif (((s1.length : Nat) : Int) != ((s2.length : Nat) : Int)) then (some false) else (loopF (F28_l2 n s1 s2) n (0 : Int)))
theorem F28_ok (n : Nat) (s1 : List (List UInt8)) (s2 : List (List UInt8)) (r : Bool) (h : F28 n s1 s2 = some r) : PureC Try.prog 28 [(.sl .str s1), (.sl .str s2)] (.bool r) [] := by
  refine PureC.mkS Try.func28 rfl rfl ?_
  intro w0 fz0 hfz
  replace h : (bif (((s1.length : Nat) : Int) != ((s2.length : Nat) : Int)) then (some false) else (loopF (F28_l2 n s1 s2) n (0 : Int))) = some r := h
  refine TS.seq ?_
  have hq : (True) ∧ (True) := ⟨trivial, trivial⟩
  refine TS.reg [] ?_ ?_
  · apply prop_of ?_ hq
    kernel_rfl
  refine XS.then ?_
  refine TS.seq ?_
  refine TS.seq ?_
  have hq : (True) ∧ ((True) ∧ ((True) ∧ ((True) ∧ ((True) ∧ (True))))) := ⟨trivial, ⟨trivial, ⟨trivial, ⟨trivial, ⟨trivial, trivial⟩⟩⟩⟩⟩
  refine TS.reg [] ?_ ?_
  · apply prop_of ?_ hq
    kernel_rfl
  refine XS.then ?_
  rcases bif_some h with ⟨c1, h⟩ | ⟨c2, h⟩
  · refine TS.cond (((s1.length : Nat) : Int) != ((s2.length : Nat) : Int)) ?_ (fun e => ?_) (fun e => by rw [c1] at e; cases e)
    · kernel_rfl
    refine TS.seq ?_
    have hq : (True) ∧ (True) := ⟨trivial, trivial⟩
    refine TS.reg [] ?_ ?_
    · apply prop_of ?_ hq
      kernel_rfl
    refine XS.then ?_
    refine TS.ret ?_
    refine XS.passR ?_
    obtain rfl : false = r := Option.some.inj h
    exact XS.fin [] ((True) ∧ (True)) (by kernel_rfl) ⟨trivial, trivial⟩
  · refine TS.cond (((s1.length : Nat) : Int) != ((s2.length : Nat) : Int)) ?_ (fun e => by rw [c2] at e; cases e) (fun e => ?_)
    · kernel_rfl
    refine TS.skip ?_
    refine XS.then ?_
    refine TS.seq ?_
    refine TS.seq ?_
    have hq : (True) ∧ ((True) ∧ ((True) ∧ (True))) := ⟨trivial, ⟨trivial, ⟨trivial, trivial⟩⟩⟩
    refine TS.reg [] ?_ ?_
    · apply prop_of ?_ hq
      kernel_rfl
    refine XS.then ?_
    refine TS.block ?_
    refine TS.reLoop [] (mkMask 26 [0, 1, 12, 13]) (D := Int) (fun d => match d with | x => (mkTs 26 [(0, (.sl .str s1)), (1, (.sl .str s2)), (12, (.int .i64 ((s1.length : Nat) : Int))), (13, (.int .i64 x))], [])) (fun n' d => loopF (F28_l2 n s1 s2) n' d = some r) n (0 : Int) h ?_ (fun d => loopF_zero _ d r) ?_
    · kernel_rfl
    · rintro n2 x h
      replace h : (bif (decide (x < ((s1.length : Nat) : Int))) then (bif inb x s1.length then (bif inb x s2.length then (bif (!((s1.getD x.toNat ([] : List UInt8)) == (s2.getD x.toNat ([] : List UInt8)))) then (some false) else ((loopF (F28_l2 n s1 s2) n2) (IntKind.wrap .i64 (x + (1 : Int))))) else none) else none) else (some true)) = some r := h
      refine TS.seq ?_
      have hq : (True) ∧ (True) := ⟨trivial, trivial⟩
      refine TS.reg [] ?_ ?_
      · apply prop_of ?_ hq
        kernel_rfl
      refine XS.then ?_
      refine TS.seq ?_
      rcases bif_some h with ⟨c3, h⟩ | ⟨c4, h⟩
      · refine TS.cond (decide (x < ((s1.length : Nat) : Int))) ?_ (fun e => ?_) (fun e => by rw [c3] at e; cases e)
        · kernel_rfl
        refine TS.skip ?_
        refine XS.then ?_
        refine TS.seq ?_
        refine TS.block ?_
        refine TS.seq ?_
        have hq : (True) ∧ ((True) ∧ (True)) := ⟨trivial, ⟨trivial, trivial⟩⟩
        refine TS.reg [] ?_ ?_
        · apply prop_of ?_ hq
          kernel_rfl
        refine XS.then ?_
        refine TS.seq ?_
        obtain ⟨t5, h⟩ := test_some h
        obtain ⟨t6, h⟩ := test_some h
        have hq : ((True) ∧ ((True) ∧ ((inR x s1.length) ∧ ((True) ∧ ((True) ∧ ((True) ∧ ((inR x s2.length) ∧ ((True) ∧ ((True) ∧ (True)))))))))) ∧ (True) := ⟨⟨trivial, ⟨trivial, ⟨inb_ok t5, ⟨trivial, ⟨trivial, ⟨trivial, ⟨inb_ok t6, ⟨trivial, ⟨trivial, trivial⟩⟩⟩⟩⟩⟩⟩⟩⟩, trivial⟩
        refine TS.draw 9 [] [] (by kernel_rfl) ?_ ?_
        · apply prop_of ?_ hq
          kernel_rfl
        refine XS.then ?_
        rcases bif_some h with ⟨c7, h⟩ | ⟨c8, h⟩
        · refine TS.cond (!((s1.getD x.toNat ([] : List UInt8)) == (s2.getD x.toNat ([] : List UInt8)))) ?_ (fun e => ?_) (fun e => by rw [c7] at e; cases e)
          · kernel_rfl
          refine TS.seq ?_
          have hq : (True) ∧ (True) := ⟨trivial, trivial⟩
          refine TS.reg [] ?_ ?_
          · apply prop_of ?_ hq
            kernel_rfl
          refine XS.then ?_
          refine TS.ret ?_
          refine XS.blockRet ?_
          refine XS.passR ?_
          refine XS.passR ?_
          refine XS.blockRet ?_
          refine XS.passR ?_
          obtain rfl : false = r := Option.some.inj h
          exact XS.fin [] ((True) ∧ (True)) (by kernel_rfl) ⟨trivial, trivial⟩
        · refine TS.cond (!((s1.getD x.toNat ([] : List UInt8)) == (s2.getD x.toNat ([] : List UInt8)))) ?_ (fun e => by rw [c8] at e; cases e) (fun e => ?_)
          · kernel_rfl
          refine TS.skip ?_
          refine XS.blockEnd ?_
          refine XS.then ?_
          have hq : (True) ∧ ((True) ∧ (True)) := ⟨trivial, ⟨trivial, trivial⟩⟩
          refine TS.reg [] ?_ ?_
          · apply prop_of ?_ hq
            kernel_rfl
          refine XS.reAny [] (mkMask 26 [0, 1, 12, 13]) (IntKind.wrap .i64 (x + (1 : Int))) h ?_
          kernel_rfl
      · refine TS.cond (decide (x < ((s1.length : Nat) : Int))) ?_ (fun e => by rw [c4] at e; cases e) (fun e => ?_)
        · kernel_rfl
        refine TS.exit ?_
        refine XS.passE ?_
        refine XS.passE ?_
        refine XS.out ?_
        refine XS.then ?_
        refine TS.seq ?_
        have hq : (True) ∧ (True) := ⟨trivial, trivial⟩
        refine TS.reg [] ?_ ?_
        · apply prop_of ?_ hq
          kernel_rfl
        refine XS.then ?_
        refine TS.ret ?_
        obtain rfl : true = r := Option.some.inj h
        exact XS.fin [] ((True) ∧ (True)) (by kernel_rfl) ⟨trivial, trivial⟩

/-! plugtree/pluglaw.DescSplits -/
def F7 (n : Nat) (s : List UInt8) : Option Bool := ((F26 n s).bind fun y_2 => ((F27 n s).bind fun y_3 => ((F28 n y_2.2 y_3.2).bind fun y_4 => (bif y_4 then (some (y_2.1 == y_3.1)) else (some false)))))
theorem F7_ok (n : Nat) (s : List UInt8) (r : Bool) (h : F7 n s = some r) : PureC Try.prog 7 [(.str s)] (.bool r) [] := by
  refine PureC.mkS Try.func7 rfl rfl ?_
  intro w0 fz0 hfz
  replace h : ((F26 n s).bind fun y_2 => ((F27 n s).bind fun y_3 => ((F28 n y_2.2 y_3.2).bind fun y_4 => (bif y_4 then (some (y_2.1 == y_3.1)) else (some false))))) = some r := h
  refine TS.seq ?_
  have hq : (True) ∧ (True) := ⟨trivial, trivial⟩
  refine TS.reg [] ?_ ?_
  · apply prop_of ?_ hq
    kernel_rfl
  refine XS.then ?_
  refine TS.seq ?_
  obtain ⟨y_2, hx1, h⟩ := bind_some' h
  have hq : (True) ∧ ((PureC Try.prog 26 [(.str s)] (.tup (.cons (.row 0) (.cons (.int .i64 y_2.1) .nil))) [(.row 9 .str y_2.2)]) ∧ ((True) ∧ ((True) ∧ ((True) ∧ ((True) ∧ ((True) ∧ (True))))))) := ⟨trivial, ⟨F26_ok n s y_2 hx1, ⟨trivial, ⟨trivial, ⟨trivial, ⟨trivial, ⟨trivial, trivial⟩⟩⟩⟩⟩⟩⟩
  refine TS.reg [.none, (.call (.tup (.cons (.row 0) (.cons (.int .i64 y_2.1) .nil))) [(.row 9 .str y_2.2)])] ?_ ?_
  · apply prop_of ?_ hq
    kernel_rfl
  refine XS.then ?_
  refine TS.seq ?_
  obtain ⟨y_3, hx2, h⟩ := bind_some' h
  have hq : (True) ∧ ((PureC Try.prog 27 [(.str s)] (.tup (.cons (.row 0) (.cons (.int .i64 y_3.1) .nil))) [(.row 9 .str y_3.2)]) ∧ ((True) ∧ ((True) ∧ ((True) ∧ ((True) ∧ ((True) ∧ (True))))))) := ⟨trivial, ⟨F27_ok n s y_3 hx2, ⟨trivial, ⟨trivial, ⟨trivial, ⟨trivial, ⟨trivial, trivial⟩⟩⟩⟩⟩⟩⟩
  refine TS.reg [.none, (.call (.tup (.cons (.row 0) (.cons (.int .i64 y_3.1) .nil))) [(.row 9 .str y_3.2)])] ?_ ?_
  · apply prop_of ?_ hq
    kernel_rfl
  refine XS.then ?_
  refine TS.seq ?_
  obtain ⟨y_4, hx3, h⟩ := bind_some' h
  rcases bif_some h with ⟨c4, h⟩ | ⟨c5, h⟩
  · have hq : (True) ∧ ((True) ∧ ((((True) ∧ ((True) ∧ (True))) ∧ PureC Try.prog 28 [(.sl .str y_2.2), (.sl .str y_3.2)] (.bool y_4) []) ∧ (((True) ∧ y_4 = true) ∧ ((True) ∧ ((True) ∧ ((True) ∧ ((True) ∧ ((True) ∧ (True))))))))) := ⟨trivial, ⟨trivial, ⟨⟨⟨trivial, ⟨trivial, trivial⟩⟩, F28_ok n y_2.2 y_3.2 y_4 hx3⟩, ⟨⟨trivial, c4⟩, ⟨trivial, ⟨trivial, ⟨trivial, ⟨trivial, ⟨trivial, trivial⟩⟩⟩⟩⟩⟩⟩⟩⟩
    refine TS.reg [.none, .none, (.call (.bool y_4) []), .dec true] ?_ ?_
    · apply prop_of ?_ hq
      kernel_rfl
    refine XS.then ?_
    refine TS.ret ?_
    obtain rfl : (y_2.1 == y_3.1) = r := Option.some.inj h
    exact XS.fin [] ((True) ∧ (True)) (by kernel_rfl) ⟨trivial, trivial⟩
  · have hq : (True) ∧ ((True) ∧ ((((True) ∧ ((True) ∧ (True))) ∧ PureC Try.prog 28 [(.sl .str y_2.2), (.sl .str y_3.2)] (.bool y_4) []) ∧ (((True) ∧ y_4 = false) ∧ ((True) ∧ ((True) ∧ (True)))))) := ⟨trivial, ⟨trivial, ⟨⟨⟨trivial, ⟨trivial, trivial⟩⟩, F28_ok n y_2.2 y_3.2 y_4 hx3⟩, ⟨⟨trivial, c5⟩, ⟨trivial, ⟨trivial, trivial⟩⟩⟩⟩⟩⟩
    refine TS.reg [.none, .none, (.call (.bool y_4) []), .dec false] ?_ ?_
    · apply prop_of ?_ hq
      kernel_rfl
    refine XS.then ?_
    refine TS.ret ?_
    obtain rfl : false = r := Option.some.inj h
    exact XS.fin [] ((True) ∧ (True)) (by kernel_rfl) ⟨trivial, trivial⟩
end Go.Proofs.Ytbeilpecdimheaa
