/- Functions of the program, as functions of values. -/
import Derived.Test.YtcdighmioekeiaaAm27
import Derived.Test.YtcdighmioekeiaaChecked
namespace Go.Proofs.Ytcdighmioekeiaa
open Go Go.RowKit
set_option linter.unusedVariables false
set_option maxRecDepth 100000

/-! plugtree/utf.Wide -/
def F8_l2 (n : Nat) (s : List UInt8) (k8_2 : ((List Int) × Nat) → Option ((List UInt8) × Int)) : ((List Int) × Nat) → Option ((List UInt8) × Int)
  | (m1, m2) => (bif (decide (m2 < s.length)) then (bif (decide ((((runeAt s m2).1 : Nat) : Int) < (65536 : Int))) then (bif (decide (m1.length + [(IntKind.wrap .u8 ((((runeAt s m2).1 : Nat) : Int))), (IntKind.wrap .u8 ((shrI .i32 (((runeAt s m2).1 : Nat) : Int) (8 : Int))))].length ≤ 140737488355328)) then (k8_2 ((m1 ++ [(IntKind.wrap .u8 ((((runeAt s m2).1 : Nat) : Int))), (IntKind.wrap .u8 ((shrI .i32 (((runeAt s m2).1 : Nat) : Int) (8 : Int))))]), (m2 + (runeAt s m2).2))) else none) else (bif (decide (m1.length + [(IntKind.wrap .u8 ((IntKind.wrap .i32 ((55296 : Int) + (shrI .i32 (IntKind.wrap .i32 ((((runeAt s m2).1 : Nat) : Int) - (65536 : Int))) (10 : Int)))))), (IntKind.wrap .u8 ((shrI .i32 (IntKind.wrap .i32 ((55296 : Int) + (shrI .i32 (IntKind.wrap .i32 ((((runeAt s m2).1 : Nat) : Int) - (65536 : Int))) (10 : Int)))) (8 : Int))))].length ≤ 140737488355328)) then (bif (decide ((m1 ++ [(IntKind.wrap .u8 ((IntKind.wrap .i32 ((55296 : Int) + (shrI .i32 (IntKind.wrap .i32 ((((runeAt s m2).1 : Nat) : Int) - (65536 : Int))) (10 : Int)))))), (IntKind.wrap .u8 ((shrI .i32 (IntKind.wrap .i32 ((55296 : Int) + (shrI .i32 (IntKind.wrap .i32 ((((runeAt s m2).1 : Nat) : Int) - (65536 : Int))) (10 : Int)))) (8 : Int))))]).length + [(IntKind.wrap .u8 ((IntKind.wrap .i32 ((56320 : Int) + (bitsI .and .i32 (IntKind.wrap .i32 ((((runeAt s m2).1 : Nat) : Int) - (65536 : Int))) (1023 : Int)))))), (IntKind.wrap .u8 ((shrI .i32 (IntKind.wrap .i32 ((56320 : Int) + (bitsI .and .i32 (IntKind.wrap .i32 ((((runeAt s m2).1 : Nat) : Int) - (65536 : Int))) (1023 : Int)))) (8 : Int))))].length ≤ 140737488355328)) then (k8_2 (((m1 ++ [(IntKind.wrap .u8 ((IntKind.wrap .i32 ((55296 : Int) + (shrI .i32 (IntKind.wrap .i32 ((((runeAt s m2).1 : Nat) : Int) - (65536 : Int))) (10 : Int)))))), (IntKind.wrap .u8 ((shrI .i32 (IntKind.wrap .i32 ((55296 : Int) + (shrI .i32 (IntKind.wrap .i32 ((((runeAt s m2).1 : Nat) : Int) - (65536 : Int))) (10 : Int)))) (8 : Int))))]) ++ [(IntKind.wrap .u8 ((IntKind.wrap .i32 ((56320 : Int) + (bitsI .and .i32 (IntKind.wrap .i32 ((((runeAt s m2).1 : Nat) : Int) - (65536 : Int))) (1023 : Int)))))), (IntKind.wrap .u8 ((shrI .i32 (IntKind.wrap .i32 ((56320 : Int) + (bitsI .and .i32 (IntKind.wrap .i32 ((((runeAt s m2).1 : Nat) : Int) - (65536 : Int))) (1023 : Int)))) (8 : Int))))]), (m2 + (runeAt s m2).2))) else none) else none)) else (bif (decide (((m1.length : Nat) : Int) > (252 : Int))) then (some (([] : List UInt8), (2 : Int))) else (some ((strOf m1), (0 : Int)))))
def F8 (n : Nat) (s : List UInt8) : Option ((List UInt8) × Int) := (loopF (F8_l2 n s) n (([] : List Int), 0))
theorem F8_ok (n : Nat) (s : List UInt8) (r : (List UInt8) × Int) (h : F8 n s = some r) : PureC Try.prog 8 [(.str s)] (.tup (.cons (.str r.1) (.cons (.int .i64 r.2) .nil))) [] := by
  refine PureC.mkS Try.func8 rfl rfl ?_
  intro w0 fz0 hfz
  replace h : (loopF (F8_l2 n s) n (([] : List Int), 0)) = some r := h
  refine TS.seq ?_
  have hq : (True) ∧ ((True) ∧ (True)) := ⟨trivial, ⟨trivial, trivial⟩⟩
  refine TS.reg [] ?_ ?_
  · apply prop_of ?_ hq
    kernel_rfl
  refine XS.then ?_
  refine TS.seq ?_
  have hq : (True) ∧ (True) := ⟨trivial, trivial⟩
  refine TS.reg [] ?_ ?_
  · apply prop_of ?_ hq
    kernel_rfl
  refine XS.then ?_
  refine TS.seq ?_
  have hq : (True) ∧ ((True) ∧ (True)) := ⟨trivial, ⟨trivial, trivial⟩⟩
  refine TS.reg [] ?_ ?_
  · apply prop_of ?_ hq
    kernel_rfl
  refine XS.then ?_
  refine TS.seq ?_
  refine TS.seq ?_
  have hq : (True) ∧ ((True) ∧ (True)) := ⟨trivial, ⟨trivial, trivial⟩⟩
  refine TS.reg [] ?_ ?_
  · apply prop_of ?_ hq
    kernel_rfl
  refine XS.then ?_
  refine TS.block ?_
  refine TS.wk (.row true 0 [] 5 (.int .u8)) ?_
  refine TS.reLoop [0, 2, 1] (mkMask 36 [4, 5, 10]) (D := (List Int) × Nat) (fun d => match d with | (m1, m2) => (mkTs 36 [(4, (.ptr 0 [])), (5, (.fn 24 (.cons (.ptr 0 []) .nil))), (10, (.ptr 2 []))], [(.box 41 (.row 1)), (.row 5 (.int .u8) m1), (.iter s m2)])) (fun n' d => loopF (F8_l2 n s) n' d = some r) n (([] : List Int), 0) h ?_ (fun d => loopF_zero _ d r) ?_
  · kernel_rfl
  · rintro n2 ⟨m1, m2⟩ h
    replace h : (bif (decide (m2 < s.length)) then (bif (decide ((((runeAt s m2).1 : Nat) : Int) < (65536 : Int))) then (bif (decide (m1.length + [(IntKind.wrap .u8 ((((runeAt s m2).1 : Nat) : Int))), (IntKind.wrap .u8 ((shrI .i32 (((runeAt s m2).1 : Nat) : Int) (8 : Int))))].length ≤ 140737488355328)) then ((loopF (F8_l2 n s) n2) ((m1 ++ [(IntKind.wrap .u8 ((((runeAt s m2).1 : Nat) : Int))), (IntKind.wrap .u8 ((shrI .i32 (((runeAt s m2).1 : Nat) : Int) (8 : Int))))]), (m2 + (runeAt s m2).2))) else none) else (bif (decide (m1.length + [(IntKind.wrap .u8 ((IntKind.wrap .i32 ((55296 : Int) + (shrI .i32 (IntKind.wrap .i32 ((((runeAt s m2).1 : Nat) : Int) - (65536 : Int))) (10 : Int)))))), (IntKind.wrap .u8 ((shrI .i32 (IntKind.wrap .i32 ((55296 : Int) + (shrI .i32 (IntKind.wrap .i32 ((((runeAt s m2).1 : Nat) : Int) - (65536 : Int))) (10 : Int)))) (8 : Int))))].length ≤ 140737488355328)) then (bif (decide ((m1 ++ [(IntKind.wrap .u8 ((IntKind.wrap .i32 ((55296 : Int) + (shrI .i32 (IntKind.wrap .i32 ((((runeAt s m2).1 : Nat) : Int) - (65536 : Int))) (10 : Int)))))), (IntKind.wrap .u8 ((shrI .i32 (IntKind.wrap .i32 ((55296 : Int) + (shrI .i32 (IntKind.wrap .i32 ((((runeAt s m2).1 : Nat) : Int) - (65536 : Int))) (10 : Int)))) (8 : Int))))]).length + [(IntKind.wrap .u8 ((IntKind.wrap .i32 ((56320 : Int) + (bitsI .and .i32 (IntKind.wrap .i32 ((((runeAt s m2).1 : Nat) : Int) - (65536 : Int))) (1023 : Int)))))), (IntKind.wrap .u8 ((shrI .i32 (IntKind.wrap .i32 ((56320 : Int) + (bitsI .and .i32 (IntKind.wrap .i32 ((((runeAt s m2).1 : Nat) : Int) - (65536 : Int))) (1023 : Int)))) (8 : Int))))].length ≤ 140737488355328)) then ((loopF (F8_l2 n s) n2) (((m1 ++ [(IntKind.wrap .u8 ((IntKind.wrap .i32 ((55296 : Int) + (shrI .i32 (IntKind.wrap .i32 ((((runeAt s m2).1 : Nat) : Int) - (65536 : Int))) (10 : Int)))))), (IntKind.wrap .u8 ((shrI .i32 (IntKind.wrap .i32 ((55296 : Int) + (shrI .i32 (IntKind.wrap .i32 ((((runeAt s m2).1 : Nat) : Int) - (65536 : Int))) (10 : Int)))) (8 : Int))))]) ++ [(IntKind.wrap .u8 ((IntKind.wrap .i32 ((56320 : Int) + (bitsI .and .i32 (IntKind.wrap .i32 ((((runeAt s m2).1 : Nat) : Int) - (65536 : Int))) (1023 : Int)))))), (IntKind.wrap .u8 ((shrI .i32 (IntKind.wrap .i32 ((56320 : Int) + (bitsI .and .i32 (IntKind.wrap .i32 ((((runeAt s m2).1 : Nat) : Int) - (65536 : Int))) (1023 : Int)))) (8 : Int))))]), (m2 + (runeAt s m2).2))) else none) else none)) else (bif (decide (((m1.length : Nat) : Int) > (252 : Int))) then (some (([] : List UInt8), (2 : Int))) else (some ((strOf m1), (0 : Int))))) = some r := h
    refine TS.seq ?_
    rcases bif_some h with ⟨c1, h⟩ | ⟨c2, h⟩
    · have hq : (m2 < s.length) ∧ ((True) ∧ (True)) := ⟨of_decide_eq_true c1, ⟨trivial, trivial⟩⟩
      refine TS.reg [.dec true] ?_ ?_
      · apply prop_of ?_ hq
        kernel_rfl
      refine XS.then ?_
      refine TS.seq ?_
      refine TS.yes ?_ ?_
      · kernel_rfl
      refine TS.skip ?_
      refine XS.then ?_
      refine TS.block ?_
      refine TS.seq ?_
      have hq : (True) ∧ ((True) ∧ (True)) := ⟨trivial, ⟨trivial, trivial⟩⟩
      refine TS.reg [] ?_ ?_
      · apply prop_of ?_ hq
        kernel_rfl
      refine XS.then ?_
      refine TS.seq ?_
      have hq : (True) ∧ ((True) ∧ (True)) := ⟨trivial, ⟨trivial, trivial⟩⟩
      refine TS.reg [] ?_ ?_
      · apply prop_of ?_ hq
        kernel_rfl
      refine XS.then ?_
      rcases bif_some h with ⟨c3, h⟩ | ⟨c4, h⟩
      · refine TS.cond (decide ((((runeAt s m2).1 : Nat) : Int) < (65536 : Int))) ?_ (fun hcz => ?_) (fun hcz => by rw [c3] at hcz; cases hcz)
        · kernel_rfl
        refine TS.opsOf ?_
        have hq : (True) ∧ ((True) ∧ (True)) := ⟨trivial, ⟨trivial, trivial⟩⟩
        refine TOS.run 2 [] (by kernel_rfl) ?_ ?_
        · apply prop_of ?_ hq
          kernel_rfl
        refine TOS.call 24 (mkMask 36 [4, 5, 10]) Try.func24 rfl ?_
        intro fv16
        refine ⟨(mkTs 11 [(0, (.int .i32 (((runeAt s m2).1 : Nat) : Int))), (1, (.ptr 0 []))], [(.box 41 (.row 1)), (.row 5 (.int .u8) m1), (.iter s (m2 + (runeAt s m2).2)), (.sav (mkTs 36 [(4, (.ptr 0 [])), (5, (.fn 24 (.cons (.ptr 0 []) .nil))), (10, (.ptr 2 []))]) fv16)]), by kernel_rfl, ?_⟩
        obtain ⟨t5, h⟩ := test_some h
        have hq : (True) ∧ ((True) ∧ ((True) ∧ ((True) ∧ ((0 ≤ (8 : Int)) ∧ ((True) ∧ (((0 < 2 ∧ True) ∧ ((1 < 2 ∧ True) ∧ (True))) ∧ ((m1.length + [(IntKind.wrap .u8 ((((runeAt s m2).1 : Nat) : Int))), (IntKind.wrap .u8 ((shrI .i32 (((runeAt s m2).1 : Nat) : Int) (8 : Int))))].length ≤ 140737488355328) ∧ ((True) ∧ (True))))))))) := ⟨trivial, ⟨trivial, ⟨trivial, ⟨trivial, ⟨by decide, ⟨trivial, ⟨⟨⟨by decide, trivial⟩, ⟨⟨by decide, trivial⟩, trivial⟩⟩, ⟨of_decide_eq_true t5, ⟨trivial, trivial⟩⟩⟩⟩⟩⟩⟩⟩⟩
        refine TS.reg [] ?_ ?_
        · apply prop_of ?_ hq
          kernel_rfl
        refine XS.backN 3 (mkTs 36 [(4, (.ptr 0 [])), (5, (.fn 24 (.cons (.ptr 0 []) .nil))), (10, (.ptr 2 []))]) (mkTs 36 [(4, (.ptr 0 [])), (5, (.fn 24 (.cons (.ptr 0 []) .nil))), (10, (.ptr 2 [])), (18, (.tup .nil))], [(.box 41 (.row 5)), .dead, (.iter s (m2 + (runeAt s m2).2)), .dead, (.row 5 (.int .u8) [(IntKind.wrap .u8 ((((runeAt s m2).1 : Nat) : Int))), (IntKind.wrap .u8 ((shrI .i32 (((runeAt s m2).1 : Nat) : Int) (8 : Int))))]), (.row 5 (.int .u8) (m1 ++ [(IntKind.wrap .u8 ((((runeAt s m2).1 : Nat) : Int))), (IntKind.wrap .u8 ((shrI .i32 (((runeAt s m2).1 : Nat) : Int) (8 : Int))))]))]) (True) (by kernel_rfl) (by kernel_rfl) trivial ?_
        refine KS.opsOf ?_
        refine TOS.nil (by kernel_rfl) ?_
        refine XS.blockEnd ?_
        refine XS.reAny [0, 5, 2] (mkMask 36 [4, 5, 10]) ((m1 ++ [(IntKind.wrap .u8 ((((runeAt s m2).1 : Nat) : Int))), (IntKind.wrap .u8 ((shrI .i32 (((runeAt s m2).1 : Nat) : Int) (8 : Int))))]), (m2 + (runeAt s m2).2)) h ?_
        kernel_rfl
      · refine TS.cond (decide ((((runeAt s m2).1 : Nat) : Int) < (65536 : Int))) ?_ (fun hcz => by rw [c4] at hcz; cases hcz) (fun hcz => ?_)
        · kernel_rfl
        refine TS.seq ?_
        have hq : (True) ∧ ((True) ∧ ((True) ∧ (True))) := ⟨trivial, ⟨trivial, ⟨trivial, trivial⟩⟩⟩
        refine TS.reg [] ?_ ?_
        · apply prop_of ?_ hq
          kernel_rfl
        refine XS.then ?_
        refine TS.seq ?_
        refine TS.opsOf ?_
        have hq : (True) ∧ ((True) ∧ ((0 ≤ (10 : Int)) ∧ ((True) ∧ (True)))) := ⟨trivial, ⟨trivial, ⟨by decide, ⟨trivial, trivial⟩⟩⟩⟩
        refine TOS.run 4 [] (by kernel_rfl) ?_ ?_
        · apply prop_of ?_ hq
          kernel_rfl
        refine TOS.call 24 (mkMask 36 [4, 5, 7, 10]) Try.func24 rfl ?_
        intro fv17
        refine ⟨(mkTs 11 [(0, (.int .i32 (IntKind.wrap .i32 ((55296 : Int) + (shrI .i32 (IntKind.wrap .i32 ((((runeAt s m2).1 : Nat) : Int) - (65536 : Int))) (10 : Int)))))), (1, (.ptr 0 []))], [(.box 41 (.row 1)), (.row 5 (.int .u8) m1), (.iter s (m2 + (runeAt s m2).2)), (.sav (mkTs 36 [(4, (.ptr 0 [])), (5, (.fn 24 (.cons (.ptr 0 []) .nil))), (7, (.int .i32 (IntKind.wrap .i32 ((((runeAt s m2).1 : Nat) : Int) - (65536 : Int))))), (10, (.ptr 2 []))]) fv17)]), by kernel_rfl, ?_⟩
        obtain ⟨t6, h⟩ := test_some h
        have hq : (True) ∧ ((True) ∧ ((True) ∧ ((True) ∧ ((0 ≤ (8 : Int)) ∧ ((True) ∧ (((0 < 2 ∧ True) ∧ ((1 < 2 ∧ True) ∧ (True))) ∧ ((m1.length + [(IntKind.wrap .u8 ((IntKind.wrap .i32 ((55296 : Int) + (shrI .i32 (IntKind.wrap .i32 ((((runeAt s m2).1 : Nat) : Int) - (65536 : Int))) (10 : Int)))))), (IntKind.wrap .u8 ((shrI .i32 (IntKind.wrap .i32 ((55296 : Int) + (shrI .i32 (IntKind.wrap .i32 ((((runeAt s m2).1 : Nat) : Int) - (65536 : Int))) (10 : Int)))) (8 : Int))))].length ≤ 140737488355328) ∧ ((True) ∧ (True))))))))) := ⟨trivial, ⟨trivial, ⟨trivial, ⟨trivial, ⟨by decide, ⟨trivial, ⟨⟨⟨by decide, trivial⟩, ⟨⟨by decide, trivial⟩, trivial⟩⟩, ⟨of_decide_eq_true t6, ⟨trivial, trivial⟩⟩⟩⟩⟩⟩⟩⟩⟩
        refine TS.reg [] ?_ ?_
        · apply prop_of ?_ hq
          kernel_rfl
        refine XS.backN 3 (mkTs 36 [(4, (.ptr 0 [])), (5, (.fn 24 (.cons (.ptr 0 []) .nil))), (7, (.int .i32 (IntKind.wrap .i32 ((((runeAt s m2).1 : Nat) : Int) - (65536 : Int))))), (10, (.ptr 2 []))]) (mkTs 36 [(4, (.ptr 0 [])), (5, (.fn 24 (.cons (.ptr 0 []) .nil))), (7, (.int .i32 (IntKind.wrap .i32 ((((runeAt s m2).1 : Nat) : Int) - (65536 : Int))))), (10, (.ptr 2 [])), (25, (.tup .nil))], [(.box 41 (.row 5)), .dead, (.iter s (m2 + (runeAt s m2).2)), .dead, (.row 5 (.int .u8) [(IntKind.wrap .u8 ((IntKind.wrap .i32 ((55296 : Int) + (shrI .i32 (IntKind.wrap .i32 ((((runeAt s m2).1 : Nat) : Int) - (65536 : Int))) (10 : Int)))))), (IntKind.wrap .u8 ((shrI .i32 (IntKind.wrap .i32 ((55296 : Int) + (shrI .i32 (IntKind.wrap .i32 ((((runeAt s m2).1 : Nat) : Int) - (65536 : Int))) (10 : Int)))) (8 : Int))))]), (.row 5 (.int .u8) (m1 ++ [(IntKind.wrap .u8 ((IntKind.wrap .i32 ((55296 : Int) + (shrI .i32 (IntKind.wrap .i32 ((((runeAt s m2).1 : Nat) : Int) - (65536 : Int))) (10 : Int)))))), (IntKind.wrap .u8 ((shrI .i32 (IntKind.wrap .i32 ((55296 : Int) + (shrI .i32 (IntKind.wrap .i32 ((((runeAt s m2).1 : Nat) : Int) - (65536 : Int))) (10 : Int)))) (8 : Int))))]))]) (True) (by kernel_rfl) (by kernel_rfl) trivial ?_
        refine KS.opsOf ?_
        refine TOS.nil (by kernel_rfl) ?_
        refine XS.then ?_
        refine TS.opsOf ?_
        have hq : (True) ∧ ((True) ∧ ((True) ∧ ((True) ∧ (True)))) := ⟨trivial, ⟨trivial, ⟨trivial, ⟨trivial, trivial⟩⟩⟩⟩
        refine TOS.run 4 [] (by kernel_rfl) ?_ ?_
        · apply prop_of ?_ hq
          kernel_rfl
        refine TOS.call 24 (mkMask 36 [4, 5, 10]) Try.func24 rfl ?_
        intro fv18
        refine ⟨(mkTs 11 [(0, (.int .i32 (IntKind.wrap .i32 ((56320 : Int) + (bitsI .and .i32 (IntKind.wrap .i32 ((((runeAt s m2).1 : Nat) : Int) - (65536 : Int))) (1023 : Int)))))), (1, (.ptr 0 []))], [(.box 41 (.row 5)), .dead, (.iter s (m2 + (runeAt s m2).2)), .dead, (.row 5 (.int .u8) [(IntKind.wrap .u8 ((IntKind.wrap .i32 ((55296 : Int) + (shrI .i32 (IntKind.wrap .i32 ((((runeAt s m2).1 : Nat) : Int) - (65536 : Int))) (10 : Int)))))), (IntKind.wrap .u8 ((shrI .i32 (IntKind.wrap .i32 ((55296 : Int) + (shrI .i32 (IntKind.wrap .i32 ((((runeAt s m2).1 : Nat) : Int) - (65536 : Int))) (10 : Int)))) (8 : Int))))]), (.row 5 (.int .u8) (m1 ++ [(IntKind.wrap .u8 ((IntKind.wrap .i32 ((55296 : Int) + (shrI .i32 (IntKind.wrap .i32 ((((runeAt s m2).1 : Nat) : Int) - (65536 : Int))) (10 : Int)))))), (IntKind.wrap .u8 ((shrI .i32 (IntKind.wrap .i32 ((55296 : Int) + (shrI .i32 (IntKind.wrap .i32 ((((runeAt s m2).1 : Nat) : Int) - (65536 : Int))) (10 : Int)))) (8 : Int))))])), (.sav (mkTs 36 [(4, (.ptr 0 [])), (5, (.fn 24 (.cons (.ptr 0 []) .nil))), (10, (.ptr 2 []))]) fv18)]), by kernel_rfl, ?_⟩
        obtain ⟨t7, h⟩ := test_some h
        have hq : (True) ∧ ((True) ∧ ((True) ∧ ((True) ∧ ((0 ≤ (8 : Int)) ∧ ((True) ∧ (((0 < 2 ∧ True) ∧ ((1 < 2 ∧ True) ∧ (True))) ∧ (((m1 ++ [(IntKind.wrap .u8 ((IntKind.wrap .i32 ((55296 : Int) + (shrI .i32 (IntKind.wrap .i32 ((((runeAt s m2).1 : Nat) : Int) - (65536 : Int))) (10 : Int)))))), (IntKind.wrap .u8 ((shrI .i32 (IntKind.wrap .i32 ((55296 : Int) + (shrI .i32 (IntKind.wrap .i32 ((((runeAt s m2).1 : Nat) : Int) - (65536 : Int))) (10 : Int)))) (8 : Int))))]).length + [(IntKind.wrap .u8 ((IntKind.wrap .i32 ((56320 : Int) + (bitsI .and .i32 (IntKind.wrap .i32 ((((runeAt s m2).1 : Nat) : Int) - (65536 : Int))) (1023 : Int)))))), (IntKind.wrap .u8 ((shrI .i32 (IntKind.wrap .i32 ((56320 : Int) + (bitsI .and .i32 (IntKind.wrap .i32 ((((runeAt s m2).1 : Nat) : Int) - (65536 : Int))) (1023 : Int)))) (8 : Int))))].length ≤ 140737488355328) ∧ ((True) ∧ (True))))))))) := ⟨trivial, ⟨trivial, ⟨trivial, ⟨trivial, ⟨by decide, ⟨trivial, ⟨⟨⟨by decide, trivial⟩, ⟨⟨by decide, trivial⟩, trivial⟩⟩, ⟨of_decide_eq_true t7, ⟨trivial, trivial⟩⟩⟩⟩⟩⟩⟩⟩⟩
        refine TS.reg [] ?_ ?_
        · apply prop_of ?_ hq
          kernel_rfl
        refine XS.backN 6 (mkTs 36 [(4, (.ptr 0 [])), (5, (.fn 24 (.cons (.ptr 0 []) .nil))), (10, (.ptr 2 []))]) (mkTs 36 [(4, (.ptr 0 [])), (5, (.fn 24 (.cons (.ptr 0 []) .nil))), (10, (.ptr 2 [])), (30, (.tup .nil))], [(.box 41 (.row 8)), .dead, (.iter s (m2 + (runeAt s m2).2)), .dead, (.row 5 (.int .u8) [(IntKind.wrap .u8 ((IntKind.wrap .i32 ((55296 : Int) + (shrI .i32 (IntKind.wrap .i32 ((((runeAt s m2).1 : Nat) : Int) - (65536 : Int))) (10 : Int)))))), (IntKind.wrap .u8 ((shrI .i32 (IntKind.wrap .i32 ((55296 : Int) + (shrI .i32 (IntKind.wrap .i32 ((((runeAt s m2).1 : Nat) : Int) - (65536 : Int))) (10 : Int)))) (8 : Int))))]), .dead, .dead, (.row 5 (.int .u8) [(IntKind.wrap .u8 ((IntKind.wrap .i32 ((56320 : Int) + (bitsI .and .i32 (IntKind.wrap .i32 ((((runeAt s m2).1 : Nat) : Int) - (65536 : Int))) (1023 : Int)))))), (IntKind.wrap .u8 ((shrI .i32 (IntKind.wrap .i32 ((56320 : Int) + (bitsI .and .i32 (IntKind.wrap .i32 ((((runeAt s m2).1 : Nat) : Int) - (65536 : Int))) (1023 : Int)))) (8 : Int))))]), (.row 5 (.int .u8) ((m1 ++ [(IntKind.wrap .u8 ((IntKind.wrap .i32 ((55296 : Int) + (shrI .i32 (IntKind.wrap .i32 ((((runeAt s m2).1 : Nat) : Int) - (65536 : Int))) (10 : Int)))))), (IntKind.wrap .u8 ((shrI .i32 (IntKind.wrap .i32 ((55296 : Int) + (shrI .i32 (IntKind.wrap .i32 ((((runeAt s m2).1 : Nat) : Int) - (65536 : Int))) (10 : Int)))) (8 : Int))))]) ++ [(IntKind.wrap .u8 ((IntKind.wrap .i32 ((56320 : Int) + (bitsI .and .i32 (IntKind.wrap .i32 ((((runeAt s m2).1 : Nat) : Int) - (65536 : Int))) (1023 : Int)))))), (IntKind.wrap .u8 ((shrI .i32 (IntKind.wrap .i32 ((56320 : Int) + (bitsI .and .i32 (IntKind.wrap .i32 ((((runeAt s m2).1 : Nat) : Int) - (65536 : Int))) (1023 : Int)))) (8 : Int))))]))]) (True) (by kernel_rfl) (by kernel_rfl) trivial ?_
        refine KS.opsOf ?_
        refine TOS.nil (by kernel_rfl) ?_
        refine XS.blockEnd ?_
        refine XS.reAny [0, 8, 2] (mkMask 36 [4, 5, 10]) (((m1 ++ [(IntKind.wrap .u8 ((IntKind.wrap .i32 ((55296 : Int) + (shrI .i32 (IntKind.wrap .i32 ((((runeAt s m2).1 : Nat) : Int) - (65536 : Int))) (10 : Int)))))), (IntKind.wrap .u8 ((shrI .i32 (IntKind.wrap .i32 ((55296 : Int) + (shrI .i32 (IntKind.wrap .i32 ((((runeAt s m2).1 : Nat) : Int) - (65536 : Int))) (10 : Int)))) (8 : Int))))]) ++ [(IntKind.wrap .u8 ((IntKind.wrap .i32 ((56320 : Int) + (bitsI .and .i32 (IntKind.wrap .i32 ((((runeAt s m2).1 : Nat) : Int) - (65536 : Int))) (1023 : Int)))))), (IntKind.wrap .u8 ((shrI .i32 (IntKind.wrap .i32 ((56320 : Int) + (bitsI .and .i32 (IntKind.wrap .i32 ((((runeAt s m2).1 : Nat) : Int) - (65536 : Int))) (1023 : Int)))) (8 : Int))))]), (m2 + (runeAt s m2).2)) h ?_
        kernel_rfl
    · have hq : (¬ m2 < s.length) ∧ ((True) ∧ (True)) := ⟨of_decide_eq_false c2, ⟨trivial, trivial⟩⟩
      refine TS.reg [.dec false] ?_ ?_
      · apply prop_of ?_ hq
        kernel_rfl
      refine XS.then ?_
      refine TS.seq ?_
      refine TS.no ?_ ?_
      · kernel_rfl
      refine TS.exit ?_
      refine XS.passE ?_
      refine XS.passE ?_
      refine XS.out ?_
      refine XS.then ?_
      refine TS.seq ?_
      refine TS.seq ?_
      have hq : (True) ∧ ((True) ∧ ((True) ∧ (True))) := ⟨trivial, ⟨trivial, ⟨trivial, trivial⟩⟩⟩
      refine TS.reg [] ?_ ?_
      · apply prop_of ?_ hq
        kernel_rfl
      refine XS.then ?_
      rcases bif_some h with ⟨c8, h⟩ | ⟨c9, h⟩
      · refine TS.cond (decide (((m1.length : Nat) : Int) > (252 : Int))) ?_ (fun hcz => ?_) (fun hcz => by rw [c8] at hcz; cases hcz)
        · kernel_rfl
        refine TS.seq ?_
        have hq : (True) ∧ ((True) ∧ (True)) := ⟨trivial, ⟨trivial, trivial⟩⟩
        refine TS.reg [] ?_ ?_
        · apply prop_of ?_ hq
          kernel_rfl
        refine XS.then ?_
        refine TS.ret ?_
        refine XS.passR ?_
        obtain rfl : (([] : List UInt8), (2 : Int)) = r := Option.some.inj h
        exact XS.fin [] ((True) ∧ ((True) ∧ (True))) (by kernel_rfl) ⟨trivial, ⟨trivial, trivial⟩⟩
      · refine TS.cond (decide (((m1.length : Nat) : Int) > (252 : Int))) ?_ (fun hcz => by rw [c9] at hcz; cases hcz) (fun hcz => ?_)
        · kernel_rfl
        refine TS.skip ?_
        refine XS.then ?_
        refine TS.seq ?_
        have hq : (True) ∧ ((True) ∧ ((True) ∧ ((True) ∧ (True)))) := ⟨trivial, ⟨trivial, ⟨trivial, ⟨trivial, trivial⟩⟩⟩⟩
        refine TS.reg [] ?_ ?_
        · apply prop_of ?_ hq
          kernel_rfl
        refine XS.then ?_
        refine TS.ret ?_
        obtain rfl : ((strOf m1), (0 : Int)) = r := Option.some.inj h
        exact XS.fin [] ((True) ∧ ((True) ∧ (True))) (by kernel_rfl) ⟨trivial, ⟨trivial, trivial⟩⟩

/-! plugtree/plugref.runeAt -/
def F42_l4 (n : Nat) (s : List UInt8) (vat : Int) (vn : Int) (least : Int) (k42_4 : (Int × Int) → Option (Int × Int)) : (Int × Int) → Option (Int × Int)
  | (b_2, x) => (bif (decide (x < vn)) then (bif (decide ((IntKind.wrap .i64 ((IntKind.wrap .i64 (vat + (1 : Int))) + x)) ≥ ((s.length : Nat) : Int))) then (some ((65533 : Int), (1 : Int))) else (bif inb (IntKind.wrap .i64 ((IntKind.wrap .i64 (vat + (1 : Int))) + x)) s.length then (bif ((IntKind.wrap .u8 ((((s.getD ((IntKind.wrap .i64 ((IntKind.wrap .i64 (vat + (1 : Int))) + x)).toNat) 0).toNat : Nat) : Int).tdiv (64 : Int))) != (2 : Int)) then (some ((65533 : Int), (1 : Int))) else (k42_4 ((IntKind.wrap .i64 ((IntKind.wrap .i64 ((64 : Int) * b_2)) + ((IntKind.wrap .i64 ((((s.getD ((IntKind.wrap .i64 ((IntKind.wrap .i64 (vat + (1 : Int))) + x)).toNat) 0).toNat : Nat) : Int))).tmod (64 : Int)))), (IntKind.wrap .i64 (x + (1 : Int)))))) else none)) else (bif (decide (b_2 < least)) then (some ((65533 : Int), (1 : Int))) else (bif (decide (b_2 > (1114111 : Int))) then (some ((65533 : Int), (1 : Int))) else (bif (decide (b_2 ≥ (55296 : Int))) then (bif (decide (b_2 < (57344 : Int))) then (some ((65533 : Int), (1 : Int))) else (some (b_2, (IntKind.wrap .i64 (vn + (1 : Int)))))) else (some (b_2, (IntKind.wrap .i64 (vn + (1 : Int)))))))))
def F42_j3 (n : Nat) (s : List UInt8) (vat : Int) : (Int × Int × Int) → Option (Int × Int)
  | (b, vn, least) => (loopF (F42_l4 n s vat vn least) n (b, (0 : Int)))
def F42 (n : Nat) (s : List UInt8) (vat : Int) : Option (Int × Int) := (bif inb vat s.length then (bif (decide ((IntKind.wrap .i64 ((((s.getD vat.toNat 0).toNat : Nat) : Int))) < (128 : Int))) then (some ((IntKind.wrap .i64 ((((s.getD vat.toNat 0).toNat : Nat) : Int))), (1 : Int))) else (bif (decide ((IntKind.wrap .i64 ((((s.getD vat.toNat 0).toNat : Nat) : Int))) ≥ (192 : Int))) then (bif (decide ((IntKind.wrap .i64 ((((s.getD vat.toNat 0).toNat : Nat) : Int))) < (224 : Int))) then (F42_j3 n s vat ((IntKind.wrap .i64 ((IntKind.wrap .i64 ((((s.getD vat.toNat 0).toNat : Nat) : Int))) - (192 : Int))), (1 : Int), (128 : Int))) else (bif (decide ((IntKind.wrap .i64 ((((s.getD vat.toNat 0).toNat : Nat) : Int))) ≥ (224 : Int))) then (bif (decide ((IntKind.wrap .i64 ((((s.getD vat.toNat 0).toNat : Nat) : Int))) < (240 : Int))) then (F42_j3 n s vat ((IntKind.wrap .i64 ((IntKind.wrap .i64 ((((s.getD vat.toNat 0).toNat : Nat) : Int))) - (224 : Int))), (2 : Int), (2048 : Int))) else (bif (decide ((IntKind.wrap .i64 ((((s.getD vat.toNat 0).toNat : Nat) : Int))) ≥ (240 : Int))) then (bif (decide ((IntKind.wrap .i64 ((((s.getD vat.toNat 0).toNat : Nat) : Int))) < (248 : Int))) then (F42_j3 n s vat ((IntKind.wrap .i64 ((IntKind.wrap .i64 ((((s.getD vat.toNat 0).toNat : Nat) : Int))) - (240 : Int))), (3 : Int), (65536 : Int))) else (some ((65533 : Int), (1 : Int)))) else (some ((65533 : Int), (1 : Int))))) else (bif (decide ((IntKind.wrap .i64 ((((s.getD vat.toNat 0).toNat : Nat) : Int))) ≥ (240 : Int))) then (bif (decide ((IntKind.wrap .i64 ((((s.getD vat.toNat 0).toNat : Nat) : Int))) < (248 : Int))) then (F42_j3 n s vat ((IntKind.wrap .i64 ((IntKind.wrap .i64 ((((s.getD vat.toNat 0).toNat : Nat) : Int))) - (240 : Int))), (3 : Int), (65536 : Int))) else (some ((65533 : Int), (1 : Int)))) else (some ((65533 : Int), (1 : Int)))))) else (bif (decide ((IntKind.wrap .i64 ((((s.getD vat.toNat 0).toNat : Nat) : Int))) ≥ (224 : Int))) then (bif (decide ((IntKind.wrap .i64 ((((s.getD vat.toNat 0).toNat : Nat) : Int))) < (240 : Int))) then (F42_j3 n s vat ((IntKind.wrap .i64 ((IntKind.wrap .i64 ((((s.getD vat.toNat 0).toNat : Nat) : Int))) - (224 : Int))), (2 : Int), (2048 : Int))) else (bif (decide ((IntKind.wrap .i64 ((((s.getD vat.toNat 0).toNat : Nat) : Int))) ≥ (240 : Int))) then (bif (decide ((IntKind.wrap .i64 ((((s.getD vat.toNat 0).toNat : Nat) : Int))) < (248 : Int))) then (F42_j3 n s vat ((IntKind.wrap .i64 ((IntKind.wrap .i64 ((((s.getD vat.toNat 0).toNat : Nat) : Int))) - (240 : Int))), (3 : Int), (65536 : Int))) else (some ((65533 : Int), (1 : Int)))) else (some ((65533 : Int), (1 : Int))))) else (bif (decide ((IntKind.wrap .i64 ((((s.getD vat.toNat 0).toNat : Nat) : Int))) ≥ (240 : Int))) then (bif (decide ((IntKind.wrap .i64 ((((s.getD vat.toNat 0).toNat : Nat) : Int))) < (248 : Int))) then (F42_j3 n s vat ((IntKind.wrap .i64 ((IntKind.wrap .i64 ((((s.getD vat.toNat 0).toNat : Nat) : Int))) - (240 : Int))), (3 : Int), (65536 : Int))) else (some ((65533 : Int), (1 : Int)))) else (some ((65533 : Int), (1 : Int))))))) else none)
theorem F42_ok (n : Nat) (s : List UInt8) (vat : Int) (r : Int × Int) (h : F42 n s vat = some r) : PureC Try.prog 42 [(.str s), (.int .i64 vat)] (.tup (.cons (.int .i64 r.1) (.cons (.int .i64 r.2) .nil))) [] := by
  refine PureC.mkS Try.func42 rfl rfl ?_
  intro w0 fz0 hfz
  replace h : (bif inb vat s.length then (bif (decide ((IntKind.wrap .i64 ((((s.getD vat.toNat 0).toNat : Nat) : Int))) < (128 : Int))) then (some ((IntKind.wrap .i64 ((((s.getD vat.toNat 0).toNat : Nat) : Int))), (1 : Int))) else (bif (decide ((IntKind.wrap .i64 ((((s.getD vat.toNat 0).toNat : Nat) : Int))) ≥ (192 : Int))) then (bif (decide ((IntKind.wrap .i64 ((((s.getD vat.toNat 0).toNat : Nat) : Int))) < (224 : Int))) then (F42_j3 n s vat ((IntKind.wrap .i64 ((IntKind.wrap .i64 ((((s.getD vat.toNat 0).toNat : Nat) : Int))) - (192 : Int))), (1 : Int), (128 : Int))) else (bif (decide ((IntKind.wrap .i64 ((((s.getD vat.toNat 0).toNat : Nat) : Int))) ≥ (224 : Int))) then (bif (decide ((IntKind.wrap .i64 ((((s.getD vat.toNat 0).toNat : Nat) : Int))) < (240 : Int))) then (F42_j3 n s vat ((IntKind.wrap .i64 ((IntKind.wrap .i64 ((((s.getD vat.toNat 0).toNat : Nat) : Int))) - (224 : Int))), (2 : Int), (2048 : Int))) else (bif (decide ((IntKind.wrap .i64 ((((s.getD vat.toNat 0).toNat : Nat) : Int))) ≥ (240 : Int))) then (bif (decide ((IntKind.wrap .i64 ((((s.getD vat.toNat 0).toNat : Nat) : Int))) < (248 : Int))) then (F42_j3 n s vat ((IntKind.wrap .i64 ((IntKind.wrap .i64 ((((s.getD vat.toNat 0).toNat : Nat) : Int))) - (240 : Int))), (3 : Int), (65536 : Int))) else (some ((65533 : Int), (1 : Int)))) else (some ((65533 : Int), (1 : Int))))) else (bif (decide ((IntKind.wrap .i64 ((((s.getD vat.toNat 0).toNat : Nat) : Int))) ≥ (240 : Int))) then (bif (decide ((IntKind.wrap .i64 ((((s.getD vat.toNat 0).toNat : Nat) : Int))) < (248 : Int))) then (F42_j3 n s vat ((IntKind.wrap .i64 ((IntKind.wrap .i64 ((((s.getD vat.toNat 0).toNat : Nat) : Int))) - (240 : Int))), (3 : Int), (65536 : Int))) else (some ((65533 : Int), (1 : Int)))) else (some ((65533 : Int), (1 : Int)))))) else (bif (decide ((IntKind.wrap .i64 ((((s.getD vat.toNat 0).toNat : Nat) : Int))) ≥ (224 : Int))) then (bif (decide ((IntKind.wrap .i64 ((((s.getD vat.toNat 0).toNat : Nat) : Int))) < (240 : Int))) then (F42_j3 n s vat ((IntKind.wrap .i64 ((IntKind.wrap .i64 ((((s.getD vat.toNat 0).toNat : Nat) : Int))) - (224 : Int))), (2 : Int), (2048 : Int))) else (bif (decide ((IntKind.wrap .i64 ((((s.getD vat.toNat 0).toNat : Nat) : Int))) ≥ (240 : Int))) then (bif (decide ((IntKind.wrap .i64 ((((s.getD vat.toNat 0).toNat : Nat) : Int))) < (248 : Int))) then (F42_j3 n s vat ((IntKind.wrap .i64 ((IntKind.wrap .i64 ((((s.getD vat.toNat 0).toNat : Nat) : Int))) - (240 : Int))), (3 : Int), (65536 : Int))) else (some ((65533 : Int), (1 : Int)))) else (some ((65533 : Int), (1 : Int))))) else (bif (decide ((IntKind.wrap .i64 ((((s.getD vat.toNat 0).toNat : Nat) : Int))) ≥ (240 : Int))) then (bif (decide ((IntKind.wrap .i64 ((((s.getD vat.toNat 0).toNat : Nat) : Int))) < (248 : Int))) then (F42_j3 n s vat ((IntKind.wrap .i64 ((IntKind.wrap .i64 ((((s.getD vat.toNat 0).toNat : Nat) : Int))) - (240 : Int))), (3 : Int), (65536 : Int))) else (some ((65533 : Int), (1 : Int)))) else (some ((65533 : Int), (1 : Int))))))) else none) = some r := h
  refine TS.seq ?_
  have hq : (True) ∧ ((True) ∧ (True)) := ⟨trivial, ⟨trivial, trivial⟩⟩
  refine TS.reg [] ?_ ?_
  · apply prop_of ?_ hq
    kernel_rfl
  refine XS.then ?_
  refine TS.seq ?_
  obtain ⟨t1, h⟩ := test_some h
  have hq : (True) ∧ ((True) ∧ ((inR vat s.length) ∧ ((True) ∧ ((True) ∧ (True))))) := ⟨trivial, ⟨trivial, ⟨inb_ok t1, ⟨trivial, ⟨trivial, trivial⟩⟩⟩⟩⟩
  refine TS.reg [] ?_ ?_
  · apply prop_of ?_ hq
    kernel_rfl
  refine XS.then ?_
  refine TS.seq ?_
  have hq : (True) ∧ ((True) ∧ (True)) := ⟨trivial, ⟨trivial, trivial⟩⟩
  refine TS.reg [] ?_ ?_
  · apply prop_of ?_ hq
    kernel_rfl
  refine XS.then ?_
  refine TS.seq ?_
  refine TS.cut (D := Int × Int × Int) (fun d => match d with | (b, vn, least) => (mkTs 96 [(0, (.str s)), (1, (.int .i64 vat)), (6, (.int .i64 b)), (7, (.int .i64 vn)), (8, (.int .i64 least))], [])) (fun d => F42_j3 n s vat d = some r) ?_ ?_
  · rintro ⟨b, vn, least⟩ h
    replace h : (loopF (F42_l4 n s vat vn least) n (b, (0 : Int))) = some r := h
    refine XS.then ?_
    refine TS.seq ?_
    refine TS.seq ?_
    have hq : (True) ∧ ((True) ∧ (True)) := ⟨trivial, ⟨trivial, trivial⟩⟩
    refine TS.reg [] ?_ ?_
    · apply prop_of ?_ hq
      kernel_rfl
    refine XS.then ?_
    refine TS.block ?_
    refine TS.reLoop [] (mkMask 96 [0, 1, 6, 7, 8, 45, 46]) (D := Int × Int) (fun d => match d with | (b_2, x) => (mkTs 96 [(0, (.str s)), (1, (.int .i64 vat)), (6, (.int .i64 b_2)), (7, (.int .i64 vn)), (8, (.int .i64 least)), (45, (.int .i64 vn)), (46, (.int .i64 x))], [])) (fun n' d => loopF (F42_l4 n s vat vn least) n' d = some r) n (b, (0 : Int)) h ?_ (fun d => loopF_zero _ d r) ?_
    · kernel_rfl
    · rintro n4 ⟨b_2, x⟩ h
      replace h : (bif (decide (x < vn)) then (bif (decide ((IntKind.wrap .i64 ((IntKind.wrap .i64 (vat + (1 : Int))) + x)) ≥ ((s.length : Nat) : Int))) then (some ((65533 : Int), (1 : Int))) else (bif inb (IntKind.wrap .i64 ((IntKind.wrap .i64 (vat + (1 : Int))) + x)) s.length then (bif ((IntKind.wrap .u8 ((((s.getD ((IntKind.wrap .i64 ((IntKind.wrap .i64 (vat + (1 : Int))) + x)).toNat) 0).toNat : Nat) : Int).tdiv (64 : Int))) != (2 : Int)) then (some ((65533 : Int), (1 : Int))) else ((loopF (F42_l4 n s vat vn least) n4) ((IntKind.wrap .i64 ((IntKind.wrap .i64 ((64 : Int) * b_2)) + ((IntKind.wrap .i64 ((((s.getD ((IntKind.wrap .i64 ((IntKind.wrap .i64 (vat + (1 : Int))) + x)).toNat) 0).toNat : Nat) : Int))).tmod (64 : Int)))), (IntKind.wrap .i64 (x + (1 : Int)))))) else none)) else (bif (decide (b_2 < least)) then (some ((65533 : Int), (1 : Int))) else (bif (decide (b_2 > (1114111 : Int))) then (some ((65533 : Int), (1 : Int))) else (bif (decide (b_2 ≥ (55296 : Int))) then (bif (decide (b_2 < (57344 : Int))) then (some ((65533 : Int), (1 : Int))) else (some (b_2, (IntKind.wrap .i64 (vn + (1 : Int)))))) else (some (b_2, (IntKind.wrap .i64 (vn + (1 : Int))))))))) = some r := h
      refine TS.seq ?_
      have hq : (True) ∧ (True) := ⟨trivial, trivial⟩
      refine TS.reg [] ?_ ?_
      · apply prop_of ?_ hq
        kernel_rfl
      refine XS.then ?_
      refine TS.seq ?_
      rcases bif_some h with ⟨c2, h⟩ | ⟨c3, h⟩
      · refine TS.cond (decide (x < vn)) ?_ (fun hcz => ?_) (fun hcz => by rw [c2] at hcz; cases hcz)
        · kernel_rfl
        refine TS.skip ?_
        refine XS.then ?_
        refine TS.seq ?_
        refine TS.block ?_
        refine TS.seq ?_
        have hq : (True) ∧ ((True) ∧ (True)) := ⟨trivial, ⟨trivial, trivial⟩⟩
        refine TS.reg [] ?_ ?_
        · apply prop_of ?_ hq
          kernel_rfl
        refine XS.then ?_
        refine TS.seq ?_
        refine TS.seq ?_
        rcases bif_some h with ⟨c4, h⟩ | ⟨c5, h⟩
        · have hq : (True) ∧ ((True) ∧ ((True) ∧ ((True) ∧ ((True) ∧ ((True) ∧ ((True) ∧ (((True) ∧ (decide ((IntKind.wrap .i64 ((IntKind.wrap .i64 (vat + (1 : Int))) + x)) ≥ ((s.length : Nat) : Int))) = true) ∧ ((True) ∧ (True))))))))) := ⟨trivial, ⟨trivial, ⟨trivial, ⟨trivial, ⟨trivial, ⟨trivial, ⟨trivial, ⟨⟨trivial, c4⟩, ⟨trivial, trivial⟩⟩⟩⟩⟩⟩⟩⟩⟩
          refine TS.reg [.none, .none, .none, .none, .none, .none, .none, .dec true] ?_ ?_
          · apply prop_of ?_ hq
            kernel_rfl
          refine XS.then ?_
          refine TS.yes ?_ ?_
          · kernel_rfl
          refine TS.seq ?_
          have hq : (True) ∧ ((True) ∧ (True)) := ⟨trivial, ⟨trivial, trivial⟩⟩
          refine TS.reg [] ?_ ?_
          · apply prop_of ?_ hq
            kernel_rfl
          refine XS.then ?_
          refine TS.ret ?_
          refine XS.passR ?_
          refine XS.blockRet ?_
          refine XS.passR ?_
          refine XS.passR ?_
          refine XS.blockRet ?_
          refine XS.passR ?_
          obtain rfl : ((65533 : Int), (1 : Int)) = r := Option.some.inj h
          exact XS.fin [] ((True) ∧ ((True) ∧ (True))) (by kernel_rfl) ⟨trivial, ⟨trivial, trivial⟩⟩
        · obtain ⟨t6, h⟩ := test_some h
          have hq : (True) ∧ ((True) ∧ ((True) ∧ ((True) ∧ ((True) ∧ ((True) ∧ ((True) ∧ (((True) ∧ (decide ((IntKind.wrap .i64 ((IntKind.wrap .i64 (vat + (1 : Int))) + x)) ≥ ((s.length : Nat) : Int))) = false) ∧ ((True) ∧ ((True) ∧ ((True) ∧ ((True) ∧ ((True) ∧ ((inR (IntKind.wrap .i64 ((IntKind.wrap .i64 (vat + (1 : Int))) + x)) s.length) ∧ (((64 : Int) ≠ 0) ∧ ((True) ∧ ((True) ∧ (True))))))))))))))))) := ⟨trivial, ⟨trivial, ⟨trivial, ⟨trivial, ⟨trivial, ⟨trivial, ⟨trivial, ⟨⟨trivial, c5⟩, ⟨trivial, ⟨trivial, ⟨trivial, ⟨trivial, ⟨trivial, ⟨inb_ok t6, ⟨by decide, ⟨trivial, ⟨trivial, trivial⟩⟩⟩⟩⟩⟩⟩⟩⟩⟩⟩⟩⟩⟩⟩⟩⟩
          refine TS.reg [.none, .none, .none, .none, .none, .none, .none, .dec false] ?_ ?_
          · apply prop_of ?_ hq
            kernel_rfl
          refine XS.then ?_
          rcases bif_some h with ⟨c7, h⟩ | ⟨c8, h⟩
          · refine TS.cond ((IntKind.wrap .u8 ((((s.getD ((IntKind.wrap .i64 ((IntKind.wrap .i64 (vat + (1 : Int))) + x)).toNat) 0).toNat : Nat) : Int).tdiv (64 : Int))) != (2 : Int)) ?_ (fun hcz => ?_) (fun hcz => by rw [c7] at hcz; cases hcz)
            · kernel_rfl
            refine TS.seq ?_
            have hq : (True) ∧ ((True) ∧ (True)) := ⟨trivial, ⟨trivial, trivial⟩⟩
            refine TS.reg [] ?_ ?_
            · apply prop_of ?_ hq
              kernel_rfl
            refine XS.then ?_
            refine TS.ret ?_
            refine XS.passR ?_
            refine XS.blockRet ?_
            refine XS.passR ?_
            refine XS.passR ?_
            refine XS.blockRet ?_
            refine XS.passR ?_
            obtain rfl : ((65533 : Int), (1 : Int)) = r := Option.some.inj h
            exact XS.fin [] ((True) ∧ ((True) ∧ (True))) (by kernel_rfl) ⟨trivial, ⟨trivial, trivial⟩⟩
          · refine TS.cond ((IntKind.wrap .u8 ((((s.getD ((IntKind.wrap .i64 ((IntKind.wrap .i64 (vat + (1 : Int))) + x)).toNat) 0).toNat : Nat) : Int).tdiv (64 : Int))) != (2 : Int)) ?_ (fun hcz => by rw [c8] at hcz; cases hcz) (fun hcz => ?_)
            · kernel_rfl
            refine TS.skip ?_
            refine XS.then ?_
            have hq : (True) ∧ ((True) ∧ ((True) ∧ ((True) ∧ ((True) ∧ ((True) ∧ ((True) ∧ ((inR (IntKind.wrap .i64 ((IntKind.wrap .i64 (vat + (1 : Int))) + x)) s.length) ∧ ((True) ∧ (((64 : Int) ≠ 0) ∧ ((True) ∧ ((True) ∧ (True)))))))))))) := ⟨trivial, ⟨trivial, ⟨trivial, ⟨trivial, ⟨trivial, ⟨trivial, ⟨trivial, ⟨inb_ok t6, ⟨trivial, ⟨by decide, ⟨trivial, ⟨trivial, trivial⟩⟩⟩⟩⟩⟩⟩⟩⟩⟩⟩⟩
            refine TS.reg [] ?_ ?_
            · apply prop_of ?_ hq
              kernel_rfl
            refine XS.blockEnd ?_
            refine XS.then ?_
            have hq : (True) ∧ ((True) ∧ (True)) := ⟨trivial, ⟨trivial, trivial⟩⟩
            refine TS.reg [] ?_ ?_
            · apply prop_of ?_ hq
              kernel_rfl
            refine XS.reAny [] (mkMask 96 [0, 1, 6, 7, 8, 45, 46]) ((IntKind.wrap .i64 ((IntKind.wrap .i64 ((64 : Int) * b_2)) + ((IntKind.wrap .i64 ((((s.getD ((IntKind.wrap .i64 ((IntKind.wrap .i64 (vat + (1 : Int))) + x)).toNat) 0).toNat : Nat) : Int))).tmod (64 : Int)))), (IntKind.wrap .i64 (x + (1 : Int)))) h ?_
            kernel_rfl
      · refine TS.cond (decide (x < vn)) ?_ (fun hcz => by rw [c3] at hcz; cases hcz) (fun hcz => ?_)
        · kernel_rfl
        refine TS.exit ?_
        refine XS.passE ?_
        refine XS.passE ?_
        refine XS.out ?_
        refine XS.then ?_
        refine TS.seq ?_
        refine TS.seq ?_
        rcases bif_some h with ⟨c9, h⟩ | ⟨c10, h⟩
        · have hq : (True) ∧ ((True) ∧ ((True) ∧ (((True) ∧ (decide (b_2 < least)) = true) ∧ ((True) ∧ ((True) ∧ ((True) ∧ (True))))))) := ⟨trivial, ⟨trivial, ⟨trivial, ⟨⟨trivial, c9⟩, ⟨trivial, ⟨trivial, ⟨trivial, trivial⟩⟩⟩⟩⟩⟩⟩
          refine TS.reg [.none, .none, .none, .dec true] ?_ ?_
          · apply prop_of ?_ hq
            kernel_rfl
          refine XS.then ?_
          refine TS.yes ?_ ?_
          · kernel_rfl
          refine TS.seq ?_
          have hq : (True) ∧ ((True) ∧ (True)) := ⟨trivial, ⟨trivial, trivial⟩⟩
          refine TS.reg [] ?_ ?_
          · apply prop_of ?_ hq
            kernel_rfl
          refine XS.then ?_
          refine TS.ret ?_
          refine XS.passR ?_
          obtain rfl : ((65533 : Int), (1 : Int)) = r := Option.some.inj h
          exact XS.fin [] ((True) ∧ ((True) ∧ (True))) (by kernel_rfl) ⟨trivial, ⟨trivial, trivial⟩⟩
        · rcases bif_some h with ⟨c11, h⟩ | ⟨c12, h⟩
          · have hq : (True) ∧ ((True) ∧ ((True) ∧ (((True) ∧ (decide (b_2 < least)) = false) ∧ ((True) ∧ ((True) ∧ ((True) ∧ (((True) ∧ (decide (b_2 > (1114111 : Int))) = true) ∧ ((True) ∧ (True))))))))) := ⟨trivial, ⟨trivial, ⟨trivial, ⟨⟨trivial, c10⟩, ⟨trivial, ⟨trivial, ⟨trivial, ⟨⟨trivial, c11⟩, ⟨trivial, trivial⟩⟩⟩⟩⟩⟩⟩⟩⟩
            refine TS.reg [.none, .none, .none, .dec false, .none, .none, .none, .dec true] ?_ ?_
            · apply prop_of ?_ hq
              kernel_rfl
            refine XS.then ?_
            refine TS.yes ?_ ?_
            · kernel_rfl
            refine TS.seq ?_
            have hq : (True) ∧ ((True) ∧ (True)) := ⟨trivial, ⟨trivial, trivial⟩⟩
            refine TS.reg [] ?_ ?_
            · apply prop_of ?_ hq
              kernel_rfl
            refine XS.then ?_
            refine TS.ret ?_
            refine XS.passR ?_
            obtain rfl : ((65533 : Int), (1 : Int)) = r := Option.some.inj h
            exact XS.fin [] ((True) ∧ ((True) ∧ (True))) (by kernel_rfl) ⟨trivial, ⟨trivial, trivial⟩⟩
          · rcases bif_some h with ⟨c13, h⟩ | ⟨c14, h⟩
            · have hq : (True) ∧ ((True) ∧ ((True) ∧ (((True) ∧ (decide (b_2 < least)) = false) ∧ ((True) ∧ ((True) ∧ ((True) ∧ (((True) ∧ (decide (b_2 > (1114111 : Int))) = false) ∧ ((True) ∧ ((True) ∧ (((True) ∧ (decide (b_2 ≥ (55296 : Int))) = true) ∧ ((True) ∧ ((True) ∧ ((True) ∧ ((True) ∧ (True))))))))))))))) := ⟨trivial, ⟨trivial, ⟨trivial, ⟨⟨trivial, c10⟩, ⟨trivial, ⟨trivial, ⟨trivial, ⟨⟨trivial, c12⟩, ⟨trivial, ⟨trivial, ⟨⟨trivial, c13⟩, ⟨trivial, ⟨trivial, ⟨trivial, ⟨trivial, trivial⟩⟩⟩⟩⟩⟩⟩⟩⟩⟩⟩⟩⟩⟩⟩
              refine TS.reg [.none, .none, .none, .dec false, .none, .none, .none, .dec false, .none, .none, .dec true] ?_ ?_
              · apply prop_of ?_ hq
                kernel_rfl
              refine XS.then ?_
              rcases bif_some h with ⟨c15, h⟩ | ⟨c16, h⟩
              · refine TS.cond (decide (b_2 < (57344 : Int))) ?_ (fun hcz => ?_) (fun hcz => by rw [c15] at hcz; cases hcz)
                · kernel_rfl
                refine TS.seq ?_
                have hq : (True) ∧ ((True) ∧ (True)) := ⟨trivial, ⟨trivial, trivial⟩⟩
                refine TS.reg [] ?_ ?_
                · apply prop_of ?_ hq
                  kernel_rfl
                refine XS.then ?_
                refine TS.ret ?_
                refine XS.passR ?_
                obtain rfl : ((65533 : Int), (1 : Int)) = r := Option.some.inj h
                exact XS.fin [] ((True) ∧ ((True) ∧ (True))) (by kernel_rfl) ⟨trivial, ⟨trivial, trivial⟩⟩
              · refine TS.cond (decide (b_2 < (57344 : Int))) ?_ (fun hcz => by rw [c16] at hcz; cases hcz) (fun hcz => ?_)
                · kernel_rfl
                refine TS.skip ?_
                refine XS.then ?_
                refine TS.seq ?_
                have hq : (True) ∧ ((True) ∧ ((True) ∧ ((True) ∧ ((True) ∧ (True))))) := ⟨trivial, ⟨trivial, ⟨trivial, ⟨trivial, ⟨trivial, trivial⟩⟩⟩⟩⟩
                refine TS.reg [] ?_ ?_
                · apply prop_of ?_ hq
                  kernel_rfl
                refine XS.then ?_
                refine TS.ret ?_
                obtain rfl : (b_2, (IntKind.wrap .i64 (vn + (1 : Int)))) = r := Option.some.inj h
                exact XS.fin [] ((True) ∧ ((True) ∧ (True))) (by kernel_rfl) ⟨trivial, ⟨trivial, trivial⟩⟩
            · have hq : (True) ∧ ((True) ∧ ((True) ∧ (((True) ∧ (decide (b_2 < least)) = false) ∧ ((True) ∧ ((True) ∧ ((True) ∧ (((True) ∧ (decide (b_2 > (1114111 : Int))) = false) ∧ ((True) ∧ ((True) ∧ (((True) ∧ (decide (b_2 ≥ (55296 : Int))) = false) ∧ ((True) ∧ ((True) ∧ (True))))))))))))) := ⟨trivial, ⟨trivial, ⟨trivial, ⟨⟨trivial, c10⟩, ⟨trivial, ⟨trivial, ⟨trivial, ⟨⟨trivial, c12⟩, ⟨trivial, ⟨trivial, ⟨⟨trivial, c14⟩, ⟨trivial, ⟨trivial, trivial⟩⟩⟩⟩⟩⟩⟩⟩⟩⟩⟩⟩⟩
              refine TS.reg [.none, .none, .none, .dec false, .none, .none, .none, .dec false, .none, .none, .dec false] ?_ ?_
              · apply prop_of ?_ hq
                kernel_rfl
              refine XS.then ?_
              refine TS.no ?_ ?_
              · kernel_rfl
              refine TS.skip ?_
              refine XS.then ?_
              refine TS.seq ?_
              have hq : (True) ∧ ((True) ∧ ((True) ∧ ((True) ∧ ((True) ∧ (True))))) := ⟨trivial, ⟨trivial, ⟨trivial, ⟨trivial, ⟨trivial, trivial⟩⟩⟩⟩⟩
              refine TS.reg [] ?_ ?_
              · apply prop_of ?_ hq
                kernel_rfl
              refine XS.then ?_
              refine TS.ret ?_
              obtain rfl : (b_2, (IntKind.wrap .i64 (vn + (1 : Int)))) = r := Option.some.inj h
              exact XS.fin [] ((True) ∧ ((True) ∧ (True))) (by kernel_rfl) ⟨trivial, ⟨trivial, trivial⟩⟩
  · refine TS.block ?_
    refine TS.seq ?_
    have hq : (True) ∧ ((True) ∧ ((True) ∧ (True))) := ⟨trivial, ⟨trivial, ⟨trivial, trivial⟩⟩⟩
    refine TS.reg [] ?_ ?_
    · apply prop_of ?_ hq
      kernel_rfl
    refine XS.then ?_
    rcases bif_some h with ⟨c17, h⟩ | ⟨c18, h⟩
    · refine TS.cond (decide ((IntKind.wrap .i64 ((((s.getD vat.toNat 0).toNat : Nat) : Int))) < (128 : Int))) ?_ (fun hcz => ?_) (fun hcz => by rw [c17] at hcz; cases hcz)
      · kernel_rfl
      refine TS.seq ?_
      have hq : (True) ∧ ((True) ∧ ((True) ∧ (True))) := ⟨trivial, ⟨trivial, ⟨trivial, trivial⟩⟩⟩
      refine TS.reg [] ?_ ?_
      · apply prop_of ?_ hq
        kernel_rfl
      refine XS.then ?_
      refine TS.ret ?_
      refine XS.blockRet ?_
      refine XS.passR ?_
      refine XS.passR ?_
      obtain rfl : ((IntKind.wrap .i64 ((((s.getD vat.toNat 0).toNat : Nat) : Int))), (1 : Int)) = r := Option.some.inj h
      exact XS.fin [] ((True) ∧ ((True) ∧ (True))) (by kernel_rfl) ⟨trivial, ⟨trivial, trivial⟩⟩
    · refine TS.cond (decide ((IntKind.wrap .i64 ((((s.getD vat.toNat 0).toNat : Nat) : Int))) < (128 : Int))) ?_ (fun hcz => by rw [c18] at hcz; cases hcz) (fun hcz => ?_)
      · kernel_rfl
      refine TS.seq ?_
      rcases bif_some h with ⟨c19, h⟩ | ⟨c20, h⟩
      · have hq : (True) ∧ ((True) ∧ (((True) ∧ (decide ((IntKind.wrap .i64 ((((s.getD vat.toNat 0).toNat : Nat) : Int))) ≥ (192 : Int))) = true) ∧ ((True) ∧ ((True) ∧ ((True) ∧ ((True) ∧ (True))))))) := ⟨trivial, ⟨trivial, ⟨⟨trivial, c19⟩, ⟨trivial, ⟨trivial, ⟨trivial, ⟨trivial, trivial⟩⟩⟩⟩⟩⟩⟩
        refine TS.reg [.none, .none, .dec true] ?_ ?_
        · apply prop_of ?_ hq
          kernel_rfl
        refine XS.then ?_
        rcases bif_some h with ⟨c21, h⟩ | ⟨c22, h⟩
        · refine TS.cond (decide ((IntKind.wrap .i64 ((((s.getD vat.toNat 0).toNat : Nat) : Int))) < (224 : Int))) ?_ (fun hcz => ?_) (fun hcz => by rw [c21] at hcz; cases hcz)
          · kernel_rfl
          have hq : (True) ∧ ((True) ∧ ((True) ∧ ((True) ∧ ((True) ∧ (True))))) := ⟨trivial, ⟨trivial, ⟨trivial, ⟨trivial, ⟨trivial, trivial⟩⟩⟩⟩⟩
          refine TS.reg [] ?_ ?_
          · apply prop_of ?_ hq
            kernel_rfl
          refine XS.blockEnd ?_
          refine XS.reAny [] (mkMask 96 [0, 1, 6, 7, 8]) ((IntKind.wrap .i64 ((IntKind.wrap .i64 ((((s.getD vat.toNat 0).toNat : Nat) : Int))) - (192 : Int))), (1 : Int), (128 : Int)) h ?_
          kernel_rfl
        · refine TS.cond (decide ((IntKind.wrap .i64 ((((s.getD vat.toNat 0).toNat : Nat) : Int))) < (224 : Int))) ?_ (fun hcz => by rw [c22] at hcz; cases hcz) (fun hcz => ?_)
          · kernel_rfl
          refine TS.seq ?_
          rcases bif_some h with ⟨c23, h⟩ | ⟨c24, h⟩
          · have hq : (True) ∧ ((True) ∧ (((True) ∧ (decide ((IntKind.wrap .i64 ((((s.getD vat.toNat 0).toNat : Nat) : Int))) ≥ (224 : Int))) = true) ∧ ((True) ∧ ((True) ∧ ((True) ∧ ((True) ∧ (True))))))) := ⟨trivial, ⟨trivial, ⟨⟨trivial, c23⟩, ⟨trivial, ⟨trivial, ⟨trivial, ⟨trivial, trivial⟩⟩⟩⟩⟩⟩⟩
            refine TS.reg [.none, .none, .dec true] ?_ ?_
            · apply prop_of ?_ hq
              kernel_rfl
            refine XS.then ?_
            rcases bif_some h with ⟨c25, h⟩ | ⟨c26, h⟩
            · refine TS.cond (decide ((IntKind.wrap .i64 ((((s.getD vat.toNat 0).toNat : Nat) : Int))) < (240 : Int))) ?_ (fun hcz => ?_) (fun hcz => by rw [c25] at hcz; cases hcz)
              · kernel_rfl
              have hq : (True) ∧ ((True) ∧ ((True) ∧ ((True) ∧ ((True) ∧ (True))))) := ⟨trivial, ⟨trivial, ⟨trivial, ⟨trivial, ⟨trivial, trivial⟩⟩⟩⟩⟩
              refine TS.reg [] ?_ ?_
              · apply prop_of ?_ hq
                kernel_rfl
              refine XS.blockEnd ?_
              refine XS.reAny [] (mkMask 96 [0, 1, 6, 7, 8]) ((IntKind.wrap .i64 ((IntKind.wrap .i64 ((((s.getD vat.toNat 0).toNat : Nat) : Int))) - (224 : Int))), (2 : Int), (2048 : Int)) h ?_
              kernel_rfl
            · refine TS.cond (decide ((IntKind.wrap .i64 ((((s.getD vat.toNat 0).toNat : Nat) : Int))) < (240 : Int))) ?_ (fun hcz => by rw [c26] at hcz; cases hcz) (fun hcz => ?_)
              · kernel_rfl
              refine TS.seq ?_
              rcases bif_some h with ⟨c27, h⟩ | ⟨c28, h⟩
              · have hq : (True) ∧ ((True) ∧ (((True) ∧ (decide ((IntKind.wrap .i64 ((((s.getD vat.toNat 0).toNat : Nat) : Int))) ≥ (240 : Int))) = true) ∧ ((True) ∧ ((True) ∧ ((True) ∧ ((True) ∧ (True))))))) := ⟨trivial, ⟨trivial, ⟨⟨trivial, c27⟩, ⟨trivial, ⟨trivial, ⟨trivial, ⟨trivial, trivial⟩⟩⟩⟩⟩⟩⟩
                refine TS.reg [.none, .none, .dec true] ?_ ?_
                · apply prop_of ?_ hq
                  kernel_rfl
                refine XS.then ?_
                rcases bif_some h with ⟨c29, h⟩ | ⟨c30, h⟩
                · refine TS.cond (decide ((IntKind.wrap .i64 ((((s.getD vat.toNat 0).toNat : Nat) : Int))) < (248 : Int))) ?_ (fun hcz => ?_) (fun hcz => by rw [c29] at hcz; cases hcz)
                  · kernel_rfl
                  have hq : (True) ∧ ((True) ∧ ((True) ∧ ((True) ∧ ((True) ∧ (True))))) := ⟨trivial, ⟨trivial, ⟨trivial, ⟨trivial, ⟨trivial, trivial⟩⟩⟩⟩⟩
                  refine TS.reg [] ?_ ?_
                  · apply prop_of ?_ hq
                    kernel_rfl
                  refine XS.blockEnd ?_
                  refine XS.reAny [] (mkMask 96 [0, 1, 6, 7, 8]) ((IntKind.wrap .i64 ((IntKind.wrap .i64 ((((s.getD vat.toNat 0).toNat : Nat) : Int))) - (240 : Int))), (3 : Int), (65536 : Int)) h ?_
                  kernel_rfl
                · refine TS.cond (decide ((IntKind.wrap .i64 ((((s.getD vat.toNat 0).toNat : Nat) : Int))) < (248 : Int))) ?_ (fun hcz => by rw [c30] at hcz; cases hcz) (fun hcz => ?_)
                  · kernel_rfl
                  refine TS.seq ?_
                  have hq : (True) ∧ ((True) ∧ (True)) := ⟨trivial, ⟨trivial, trivial⟩⟩
                  refine TS.reg [] ?_ ?_
                  · apply prop_of ?_ hq
                    kernel_rfl
                  refine XS.then ?_
                  refine TS.ret ?_
                  refine XS.blockRet ?_
                  refine XS.passR ?_
                  refine XS.passR ?_
                  obtain rfl : ((65533 : Int), (1 : Int)) = r := Option.some.inj h
                  exact XS.fin [] ((True) ∧ ((True) ∧ (True))) (by kernel_rfl) ⟨trivial, ⟨trivial, trivial⟩⟩
              · have hq : (True) ∧ ((True) ∧ (((True) ∧ (decide ((IntKind.wrap .i64 ((((s.getD vat.toNat 0).toNat : Nat) : Int))) ≥ (240 : Int))) = false) ∧ ((True) ∧ ((True) ∧ (True))))) := ⟨trivial, ⟨trivial, ⟨⟨trivial, c28⟩, ⟨trivial, ⟨trivial, trivial⟩⟩⟩⟩⟩
                refine TS.reg [.none, .none, .dec false] ?_ ?_
                · apply prop_of ?_ hq
                  kernel_rfl
                refine XS.then ?_
                refine TS.no ?_ ?_
                · kernel_rfl
                refine TS.seq ?_
                have hq : (True) ∧ ((True) ∧ (True)) := ⟨trivial, ⟨trivial, trivial⟩⟩
                refine TS.reg [] ?_ ?_
                · apply prop_of ?_ hq
                  kernel_rfl
                refine XS.then ?_
                refine TS.ret ?_
                refine XS.blockRet ?_
                refine XS.passR ?_
                refine XS.passR ?_
                obtain rfl : ((65533 : Int), (1 : Int)) = r := Option.some.inj h
                exact XS.fin [] ((True) ∧ ((True) ∧ (True))) (by kernel_rfl) ⟨trivial, ⟨trivial, trivial⟩⟩
          · have hq : (True) ∧ ((True) ∧ (((True) ∧ (decide ((IntKind.wrap .i64 ((((s.getD vat.toNat 0).toNat : Nat) : Int))) ≥ (224 : Int))) = false) ∧ ((True) ∧ ((True) ∧ (True))))) := ⟨trivial, ⟨trivial, ⟨⟨trivial, c24⟩, ⟨trivial, ⟨trivial, trivial⟩⟩⟩⟩⟩
            refine TS.reg [.none, .none, .dec false] ?_ ?_
            · apply prop_of ?_ hq
              kernel_rfl
            refine XS.then ?_
            refine TS.no ?_ ?_
            · kernel_rfl
            refine TS.seq ?_
            rcases bif_some h with ⟨c31, h⟩ | ⟨c32, h⟩
            · have hq : (True) ∧ ((True) ∧ (((True) ∧ (decide ((IntKind.wrap .i64 ((((s.getD vat.toNat 0).toNat : Nat) : Int))) ≥ (240 : Int))) = true) ∧ ((True) ∧ ((True) ∧ ((True) ∧ ((True) ∧ (True))))))) := ⟨trivial, ⟨trivial, ⟨⟨trivial, c31⟩, ⟨trivial, ⟨trivial, ⟨trivial, ⟨trivial, trivial⟩⟩⟩⟩⟩⟩⟩
              refine TS.reg [.none, .none, .dec true] ?_ ?_
              · apply prop_of ?_ hq
                kernel_rfl
              refine XS.then ?_
              rcases bif_some h with ⟨c33, h⟩ | ⟨c34, h⟩
              · refine TS.cond (decide ((IntKind.wrap .i64 ((((s.getD vat.toNat 0).toNat : Nat) : Int))) < (248 : Int))) ?_ (fun hcz => ?_) (fun hcz => by rw [c33] at hcz; cases hcz)
                · kernel_rfl
                have hq : (True) ∧ ((True) ∧ ((True) ∧ ((True) ∧ ((True) ∧ (True))))) := ⟨trivial, ⟨trivial, ⟨trivial, ⟨trivial, ⟨trivial, trivial⟩⟩⟩⟩⟩
                refine TS.reg [] ?_ ?_
                · apply prop_of ?_ hq
                  kernel_rfl
                refine XS.blockEnd ?_
                refine XS.reAny [] (mkMask 96 [0, 1, 6, 7, 8]) ((IntKind.wrap .i64 ((IntKind.wrap .i64 ((((s.getD vat.toNat 0).toNat : Nat) : Int))) - (240 : Int))), (3 : Int), (65536 : Int)) h ?_
                kernel_rfl
              · refine TS.cond (decide ((IntKind.wrap .i64 ((((s.getD vat.toNat 0).toNat : Nat) : Int))) < (248 : Int))) ?_ (fun hcz => by rw [c34] at hcz; cases hcz) (fun hcz => ?_)
                · kernel_rfl
                refine TS.seq ?_
                have hq : (True) ∧ ((True) ∧ (True)) := ⟨trivial, ⟨trivial, trivial⟩⟩
                refine TS.reg [] ?_ ?_
                · apply prop_of ?_ hq
                  kernel_rfl
                refine XS.then ?_
                refine TS.ret ?_
                refine XS.blockRet ?_
                refine XS.passR ?_
                refine XS.passR ?_
                obtain rfl : ((65533 : Int), (1 : Int)) = r := Option.some.inj h
                exact XS.fin [] ((True) ∧ ((True) ∧ (True))) (by kernel_rfl) ⟨trivial, ⟨trivial, trivial⟩⟩
            · have hq : (True) ∧ ((True) ∧ (((True) ∧ (decide ((IntKind.wrap .i64 ((((s.getD vat.toNat 0).toNat : Nat) : Int))) ≥ (240 : Int))) = false) ∧ ((True) ∧ ((True) ∧ (True))))) := ⟨trivial, ⟨trivial, ⟨⟨trivial, c32⟩, ⟨trivial, ⟨trivial, trivial⟩⟩⟩⟩⟩
              refine TS.reg [.none, .none, .dec false] ?_ ?_
              · apply prop_of ?_ hq
                kernel_rfl
              refine XS.then ?_
              refine TS.no ?_ ?_
              · kernel_rfl
              refine TS.seq ?_
              have hq : (True) ∧ ((True) ∧ (True)) := ⟨trivial, ⟨trivial, trivial⟩⟩
              refine TS.reg [] ?_ ?_
              · apply prop_of ?_ hq
                kernel_rfl
              refine XS.then ?_
              refine TS.ret ?_
              refine XS.blockRet ?_
              refine XS.passR ?_
              refine XS.passR ?_
              obtain rfl : ((65533 : Int), (1 : Int)) = r := Option.some.inj h
              exact XS.fin [] ((True) ∧ ((True) ∧ (True))) (by kernel_rfl) ⟨trivial, ⟨trivial, trivial⟩⟩
      · have hq : (True) ∧ ((True) ∧ (((True) ∧ (decide ((IntKind.wrap .i64 ((((s.getD vat.toNat 0).toNat : Nat) : Int))) ≥ (192 : Int))) = false) ∧ ((True) ∧ ((True) ∧ (True))))) := ⟨trivial, ⟨trivial, ⟨⟨trivial, c20⟩, ⟨trivial, ⟨trivial, trivial⟩⟩⟩⟩⟩
        refine TS.reg [.none, .none, .dec false] ?_ ?_
        · apply prop_of ?_ hq
          kernel_rfl
        refine XS.then ?_
        refine TS.no ?_ ?_
        · kernel_rfl
        refine TS.seq ?_
        rcases bif_some h with ⟨c35, h⟩ | ⟨c36, h⟩
        · have hq : (True) ∧ ((True) ∧ (((True) ∧ (decide ((IntKind.wrap .i64 ((((s.getD vat.toNat 0).toNat : Nat) : Int))) ≥ (224 : Int))) = true) ∧ ((True) ∧ ((True) ∧ ((True) ∧ ((True) ∧ (True))))))) := ⟨trivial, ⟨trivial, ⟨⟨trivial, c35⟩, ⟨trivial, ⟨trivial, ⟨trivial, ⟨trivial, trivial⟩⟩⟩⟩⟩⟩⟩
          refine TS.reg [.none, .none, .dec true] ?_ ?_
          · apply prop_of ?_ hq
            kernel_rfl
          refine XS.then ?_
          rcases bif_some h with ⟨c37, h⟩ | ⟨c38, h⟩
          · refine TS.cond (decide ((IntKind.wrap .i64 ((((s.getD vat.toNat 0).toNat : Nat) : Int))) < (240 : Int))) ?_ (fun hcz => ?_) (fun hcz => by rw [c37] at hcz; cases hcz)
            · kernel_rfl
            have hq : (True) ∧ ((True) ∧ ((True) ∧ ((True) ∧ ((True) ∧ (True))))) := ⟨trivial, ⟨trivial, ⟨trivial, ⟨trivial, ⟨trivial, trivial⟩⟩⟩⟩⟩
            refine TS.reg [] ?_ ?_
            · apply prop_of ?_ hq
              kernel_rfl
            refine XS.blockEnd ?_
            refine XS.reAny [] (mkMask 96 [0, 1, 6, 7, 8]) ((IntKind.wrap .i64 ((IntKind.wrap .i64 ((((s.getD vat.toNat 0).toNat : Nat) : Int))) - (224 : Int))), (2 : Int), (2048 : Int)) h ?_
            kernel_rfl
          · refine TS.cond (decide ((IntKind.wrap .i64 ((((s.getD vat.toNat 0).toNat : Nat) : Int))) < (240 : Int))) ?_ (fun hcz => by rw [c38] at hcz; cases hcz) (fun hcz => ?_)
            · kernel_rfl
            refine TS.seq ?_
            rcases bif_some h with ⟨c39, h⟩ | ⟨c40, h⟩
            · have hq : (True) ∧ ((True) ∧ (((True) ∧ (decide ((IntKind.wrap .i64 ((((s.getD vat.toNat 0).toNat : Nat) : Int))) ≥ (240 : Int))) = true) ∧ ((True) ∧ ((True) ∧ ((True) ∧ ((True) ∧ (True))))))) := ⟨trivial, ⟨trivial, ⟨⟨trivial, c39⟩, ⟨trivial, ⟨trivial, ⟨trivial, ⟨trivial, trivial⟩⟩⟩⟩⟩⟩⟩
              refine TS.reg [.none, .none, .dec true] ?_ ?_
              · apply prop_of ?_ hq
                kernel_rfl
              refine XS.then ?_
              rcases bif_some h with ⟨c41, h⟩ | ⟨c42, h⟩
              · refine TS.cond (decide ((IntKind.wrap .i64 ((((s.getD vat.toNat 0).toNat : Nat) : Int))) < (248 : Int))) ?_ (fun hcz => ?_) (fun hcz => by rw [c41] at hcz; cases hcz)
                · kernel_rfl
                have hq : (True) ∧ ((True) ∧ ((True) ∧ ((True) ∧ ((True) ∧ (True))))) := ⟨trivial, ⟨trivial, ⟨trivial, ⟨trivial, ⟨trivial, trivial⟩⟩⟩⟩⟩
                refine TS.reg [] ?_ ?_
                · apply prop_of ?_ hq
                  kernel_rfl
                refine XS.blockEnd ?_
                refine XS.reAny [] (mkMask 96 [0, 1, 6, 7, 8]) ((IntKind.wrap .i64 ((IntKind.wrap .i64 ((((s.getD vat.toNat 0).toNat : Nat) : Int))) - (240 : Int))), (3 : Int), (65536 : Int)) h ?_
                kernel_rfl
              · refine TS.cond (decide ((IntKind.wrap .i64 ((((s.getD vat.toNat 0).toNat : Nat) : Int))) < (248 : Int))) ?_ (fun hcz => by rw [c42] at hcz; cases hcz) (fun hcz => ?_)
                · kernel_rfl
                refine TS.seq ?_
                have hq : (True) ∧ ((True) ∧ (True)) := ⟨trivial, ⟨trivial, trivial⟩⟩
                refine TS.reg [] ?_ ?_
                · apply prop_of ?_ hq
                  kernel_rfl
                refine XS.then ?_
                refine TS.ret ?_
                refine XS.blockRet ?_
                refine XS.passR ?_
                refine XS.passR ?_
                obtain rfl : ((65533 : Int), (1 : Int)) = r := Option.some.inj h
                exact XS.fin [] ((True) ∧ ((True) ∧ (True))) (by kernel_rfl) ⟨trivial, ⟨trivial, trivial⟩⟩
            · have hq : (True) ∧ ((True) ∧ (((True) ∧ (decide ((IntKind.wrap .i64 ((((s.getD vat.toNat 0).toNat : Nat) : Int))) ≥ (240 : Int))) = false) ∧ ((True) ∧ ((True) ∧ (True))))) := ⟨trivial, ⟨trivial, ⟨⟨trivial, c40⟩, ⟨trivial, ⟨trivial, trivial⟩⟩⟩⟩⟩
              refine TS.reg [.none, .none, .dec false] ?_ ?_
              · apply prop_of ?_ hq
                kernel_rfl
              refine XS.then ?_
              refine TS.no ?_ ?_
              · kernel_rfl
              refine TS.seq ?_
              have hq : (True) ∧ ((True) ∧ (True)) := ⟨trivial, ⟨trivial, trivial⟩⟩
              refine TS.reg [] ?_ ?_
              · apply prop_of ?_ hq
                kernel_rfl
              refine XS.then ?_
              refine TS.ret ?_
              refine XS.blockRet ?_
              refine XS.passR ?_
              refine XS.passR ?_
              obtain rfl : ((65533 : Int), (1 : Int)) = r := Option.some.inj h
              exact XS.fin [] ((True) ∧ ((True) ∧ (True))) (by kernel_rfl) ⟨trivial, ⟨trivial, trivial⟩⟩
        · have hq : (True) ∧ ((True) ∧ (((True) ∧ (decide ((IntKind.wrap .i64 ((((s.getD vat.toNat 0).toNat : Nat) : Int))) ≥ (224 : Int))) = false) ∧ ((True) ∧ ((True) ∧ (True))))) := ⟨trivial, ⟨trivial, ⟨⟨trivial, c36⟩, ⟨trivial, ⟨trivial, trivial⟩⟩⟩⟩⟩
          refine TS.reg [.none, .none, .dec false] ?_ ?_
          · apply prop_of ?_ hq
            kernel_rfl
          refine XS.then ?_
          refine TS.no ?_ ?_
          · kernel_rfl
          refine TS.seq ?_
          rcases bif_some h with ⟨c43, h⟩ | ⟨c44, h⟩
          · have hq : (True) ∧ ((True) ∧ (((True) ∧ (decide ((IntKind.wrap .i64 ((((s.getD vat.toNat 0).toNat : Nat) : Int))) ≥ (240 : Int))) = true) ∧ ((True) ∧ ((True) ∧ ((True) ∧ ((True) ∧ (True))))))) := ⟨trivial, ⟨trivial, ⟨⟨trivial, c43⟩, ⟨trivial, ⟨trivial, ⟨trivial, ⟨trivial, trivial⟩⟩⟩⟩⟩⟩⟩
            refine TS.reg [.none, .none, .dec true] ?_ ?_
            · apply prop_of ?_ hq
              kernel_rfl
            refine XS.then ?_
            rcases bif_some h with ⟨c45, h⟩ | ⟨c46, h⟩
            · refine TS.cond (decide ((IntKind.wrap .i64 ((((s.getD vat.toNat 0).toNat : Nat) : Int))) < (248 : Int))) ?_ (fun hcz => ?_) (fun hcz => by rw [c45] at hcz; cases hcz)
              · kernel_rfl
              have hq : (True) ∧ ((True) ∧ ((True) ∧ ((True) ∧ ((True) ∧ (True))))) := ⟨trivial, ⟨trivial, ⟨trivial, ⟨trivial, ⟨trivial, trivial⟩⟩⟩⟩⟩
              refine TS.reg [] ?_ ?_
              · apply prop_of ?_ hq
                kernel_rfl
              refine XS.blockEnd ?_
              refine XS.reAny [] (mkMask 96 [0, 1, 6, 7, 8]) ((IntKind.wrap .i64 ((IntKind.wrap .i64 ((((s.getD vat.toNat 0).toNat : Nat) : Int))) - (240 : Int))), (3 : Int), (65536 : Int)) h ?_
              kernel_rfl
            · refine TS.cond (decide ((IntKind.wrap .i64 ((((s.getD vat.toNat 0).toNat : Nat) : Int))) < (248 : Int))) ?_ (fun hcz => by rw [c46] at hcz; cases hcz) (fun hcz => ?_)
              · kernel_rfl
              refine TS.seq ?_
              have hq : (True) ∧ ((True) ∧ (True)) := ⟨trivial, ⟨trivial, trivial⟩⟩
              refine TS.reg [] ?_ ?_
              · apply prop_of ?_ hq
                kernel_rfl
              refine XS.then ?_
              refine TS.ret ?_
              refine XS.blockRet ?_
              refine XS.passR ?_
              refine XS.passR ?_
              obtain rfl : ((65533 : Int), (1 : Int)) = r := Option.some.inj h
              exact XS.fin [] ((True) ∧ ((True) ∧ (True))) (by kernel_rfl) ⟨trivial, ⟨trivial, trivial⟩⟩
          · have hq : (True) ∧ ((True) ∧ (((True) ∧ (decide ((IntKind.wrap .i64 ((((s.getD vat.toNat 0).toNat : Nat) : Int))) ≥ (240 : Int))) = false) ∧ ((True) ∧ ((True) ∧ (True))))) := ⟨trivial, ⟨trivial, ⟨⟨trivial, c44⟩, ⟨trivial, ⟨trivial, trivial⟩⟩⟩⟩⟩
            refine TS.reg [.none, .none, .dec false] ?_ ?_
            · apply prop_of ?_ hq
              kernel_rfl
            refine XS.then ?_
            refine TS.no ?_ ?_
            · kernel_rfl
            refine TS.seq ?_
            have hq : (True) ∧ ((True) ∧ (True)) := ⟨trivial, ⟨trivial, trivial⟩⟩
            refine TS.reg [] ?_ ?_
            · apply prop_of ?_ hq
              kernel_rfl
            refine XS.then ?_
            refine TS.ret ?_
            refine XS.blockRet ?_
            refine XS.passR ?_
            refine XS.passR ?_
            obtain rfl : ((65533 : Int), (1 : Int)) = r := Option.some.inj h
            exact XS.fin [] ((True) ∧ ((True) ∧ (True))) (by kernel_rfl) ⟨trivial, ⟨trivial, trivial⟩⟩

/-! plugtree/plugref.Runes -/
def F25_l2 (n : Nat) (s : List UInt8) (k25_2 : (Int × (List Int)) → Option (List Int)) : (Int × (List Int)) → Option (List Int)
  | (vat, m0) => (bif (decide (vat < ((s.length : Nat) : Int))) then ((F42 n s vat).bind fun y_2 => (bif (decide (m0.length + [y_2.1].length ≤ 17592186044416)) then (k25_2 ((IntKind.wrap .i64 (vat + y_2.2)), (m0 ++ [y_2.1]))) else none)) else (some m0))
def F25 (n : Nat) (s : List UInt8) : Option (List Int) := (loopF (F25_l2 n s) n ((0 : Int), ([] : List Int)))
theorem F25_ok (n : Nat) (s : List UInt8) (r : List Int) (h : F25 n s = some r) : PureC Try.prog 25 [(.str s)] (.row 0) [(.row 3 (.int .i64) r)] := by
  refine PureC.mkS Try.func25 rfl rfl ?_
  intro w0 fz0 hfz
  replace h : (loopF (F25_l2 n s) n ((0 : Int), ([] : List Int))) = some r := h
  refine TS.seq ?_
  have hq : (True) ∧ (True) := ⟨trivial, trivial⟩
  refine TS.reg [] ?_ ?_
  · apply prop_of ?_ hq
    kernel_rfl
  refine XS.then ?_
  refine TS.seq ?_
  have hq : (True) ∧ (True) := ⟨trivial, trivial⟩
  refine TS.reg [] ?_ ?_
  · apply prop_of ?_ hq
    kernel_rfl
  refine XS.then ?_
  refine TS.seq ?_
  refine TS.seq ?_
  have hq : (True) ∧ (True) := ⟨trivial, trivial⟩
  refine TS.reg [] ?_ ?_
  · apply prop_of ?_ hq
    kernel_rfl
  refine XS.then ?_
  refine TS.block ?_
  refine TS.wk (.row false 3 [] 3 (.int .i64)) ?_
  refine TS.reLoop [0] (mkMask 25 [0, 3, 4]) (D := Int × (List Int)) (fun d => match d with | (vat, m0) => (mkTs 25 [(0, (.str s)), (3, (.row 0)), (4, (.int .i64 vat))], [(.row 3 (.int .i64) m0)])) (fun n' d => loopF (F25_l2 n s) n' d = some r) n ((0 : Int), ([] : List Int)) h ?_ (fun d => loopF_zero _ d r) ?_
  · kernel_rfl
  · rintro n2 ⟨vat, m0⟩ h
    replace h : (bif (decide (vat < ((s.length : Nat) : Int))) then ((F42 n s vat).bind fun y_2 => (bif (decide (m0.length + [y_2.1].length ≤ 17592186044416)) then ((loopF (F25_l2 n s) n2) ((IntKind.wrap .i64 (vat + y_2.2)), (m0 ++ [y_2.1]))) else none)) else (some m0)) = some r := h
    refine TS.seq ?_
    refine TS.seq ?_
    have hq : (True) ∧ ((True) ∧ ((True) ∧ ((True) ∧ (True)))) := ⟨trivial, ⟨trivial, ⟨trivial, ⟨trivial, trivial⟩⟩⟩⟩
    refine TS.reg [] ?_ ?_
    · apply prop_of ?_ hq
      kernel_rfl
    refine XS.then ?_
    rcases bif_some h with ⟨c1, h⟩ | ⟨c2, h⟩
    · refine TS.cond (decide (vat < ((s.length : Nat) : Int))) ?_ (fun hcz => ?_) (fun hcz => by rw [c1] at hcz; cases hcz)
      · kernel_rfl
      refine TS.skip ?_
      refine XS.then ?_
      refine TS.block ?_
      refine TS.seq ?_
      obtain ⟨y_2, hx3, h⟩ := bind_some' h
      have hq : (True) ∧ ((True) ∧ ((PureC Try.prog 42 [(.str s), (.int .i64 vat)] (.tup (.cons (.int .i64 y_2.1) (.cons (.int .i64 y_2.2) .nil))) []) ∧ ((True) ∧ ((True) ∧ ((True) ∧ ((True) ∧ ((True) ∧ (True)))))))) := ⟨trivial, ⟨trivial, ⟨F42_ok n s vat y_2 hx3, ⟨trivial, ⟨trivial, ⟨trivial, ⟨trivial, ⟨trivial, trivial⟩⟩⟩⟩⟩⟩⟩⟩
      refine TS.reg [.none, .none, (.call (.tup (.cons (.int .i64 y_2.1) (.cons (.int .i64 y_2.2) .nil))) [])] ?_ ?_
      · apply prop_of ?_ hq
        kernel_rfl
      refine XS.then ?_
      refine TS.seq ?_
      obtain ⟨t4, h⟩ := test_some h
      have hq : (True) ∧ ((True) ∧ (((0 < 1 ∧ True) ∧ (True)) ∧ ((m0.length + [y_2.1].length ≤ 17592186044416) ∧ ((True) ∧ (True))))) := ⟨trivial, ⟨trivial, ⟨⟨⟨by decide, trivial⟩, trivial⟩, ⟨of_decide_eq_true t4, ⟨trivial, trivial⟩⟩⟩⟩⟩
      refine TS.reg [] ?_ ?_
      · apply prop_of ?_ hq
        kernel_rfl
      refine XS.then ?_
      have hq : (True) ∧ ((True) ∧ ((True) ∧ ((True) ∧ (True)))) := ⟨trivial, ⟨trivial, ⟨trivial, ⟨trivial, trivial⟩⟩⟩⟩
      refine TS.reg [] ?_ ?_
      · apply prop_of ?_ hq
        kernel_rfl
      refine XS.blockEnd ?_
      refine XS.reAny [2] (mkMask 25 [0, 3, 4]) ((IntKind.wrap .i64 (vat + y_2.2)), (m0 ++ [y_2.1])) h ?_
      kernel_rfl
    · refine TS.cond (decide (vat < ((s.length : Nat) : Int))) ?_ (fun hcz => by rw [c2] at hcz; cases hcz) (fun hcz => ?_)
      · kernel_rfl
      refine TS.exit ?_
      refine XS.passE ?_
      refine XS.passE ?_
      refine XS.out ?_
      refine XS.then ?_
      refine TS.seq ?_
      have hq : (True) ∧ ((True) ∧ (True)) := ⟨trivial, ⟨trivial, trivial⟩⟩
      refine TS.reg [] ?_ ?_
      · apply prop_of ?_ hq
        kernel_rfl
      refine XS.then ?_
      refine TS.ret ?_
      obtain rfl : m0 = r := Option.some.inj h
      exact XS.fin [0] ((True) ∧ (True)) (by kernel_rfl) ⟨trivial, trivial⟩

/-! plugtree/plugref.TwoBytes -/
def F26 (n : Nat) (vn : Int) : Option (List UInt8) := (some (strOf [(IntKind.wrap .u8 ((vn.tmod (256 : Int)))), (IntKind.wrap .u8 (((IntKind.wrap .i64 (vn.tdiv (256 : Int))).tmod (256 : Int))))]))
theorem F26_ok (n : Nat) (vn : Int) (r : List UInt8) (h : F26 n vn = some r) : PureC Try.prog 26 [(.int .i64 vn)] (.str r) [] := by
  refine PureC.mkS Try.func26 rfl rfl ?_
  intro w0 fz0 hfz
  replace h : (some (strOf [(IntKind.wrap .u8 ((vn.tmod (256 : Int)))), (IntKind.wrap .u8 (((IntKind.wrap .i64 (vn.tdiv (256 : Int))).tmod (256 : Int))))])) = some r := h
  refine TS.seq ?_
  have hq : (True) ∧ (True) := ⟨trivial, trivial⟩
  refine TS.reg [] ?_ ?_
  · apply prop_of ?_ hq
    kernel_rfl
  refine XS.then ?_
  refine TS.seq ?_
  have hq : (True) ∧ (((256 : Int) ≠ 0) ∧ ((True) ∧ ((True) ∧ (((256 : Int) ≠ 0) ∧ (((256 : Int) ≠ 0) ∧ ((True) ∧ (((0 < 2 ∧ True) ∧ ((1 < 2 ∧ True) ∧ (True))) ∧ ((True) ∧ ((True) ∧ (True)))))))))) := ⟨trivial, ⟨by decide, ⟨trivial, ⟨trivial, ⟨by decide, ⟨by decide, ⟨trivial, ⟨⟨⟨by decide, trivial⟩, ⟨⟨by decide, trivial⟩, trivial⟩⟩, ⟨trivial, ⟨trivial, trivial⟩⟩⟩⟩⟩⟩⟩⟩⟩⟩
  refine TS.reg [] ?_ ?_
  · apply prop_of ?_ hq
    kernel_rfl
  refine XS.then ?_
  refine TS.ret ?_
  obtain rfl : (strOf [(IntKind.wrap .u8 ((vn.tmod (256 : Int)))), (IntKind.wrap .u8 (((IntKind.wrap .i64 (vn.tdiv (256 : Int))).tmod (256 : Int))))]) = r := Option.some.inj h
  exact XS.fin [] ((True) ∧ (True)) (by kernel_rfl) ⟨trivial, trivial⟩

/-! plugtree/plugref.Wide -/
def F9_j14 (n : Nat) (k9_12 : ((List UInt8) × Int × Int) → Option ((List UInt8) × Int)) (x : Int) (vn_2 : Int) : ((List UInt8) × Int) → Option ((List UInt8) × Int)
  | (vout_2, c) => ((F26 n c).bind fun y_4 => (bif (decide (vout_2.length + y_4.length ≤ 9223372036854775807)) then (k9_12 ((vout_2 ++ y_4), vn_2, (IntKind.wrap .i64 (x + (1 : Int))))) else none))
def F9_j13 (n : Nat) (k9_12 : ((List UInt8) × Int × Int) → Option ((List UInt8) × Int)) (y_3 : List Int) (vout : List UInt8) (x : Int) : Int → Option ((List UInt8) × Int)
  | vn_2 => (bif (decide (vn_2 > (126 : Int))) then (some (([] : List UInt8), (2 : Int))) else (bif (decide ((y_3.getD x.toNat (0 : Int)) > (65535 : Int))) then ((F26 n (IntKind.wrap .i64 ((55296 : Int) + (IntKind.wrap .i64 ((IntKind.wrap .i64 ((y_3.getD x.toNat (0 : Int)) - (65536 : Int))).tdiv (1024 : Int)))))).bind fun y_5 => (bif (decide (vout.length + y_5.length ≤ 9223372036854775807)) then (F9_j14 n k9_12 x vn_2 ((vout ++ y_5), (IntKind.wrap .i64 ((56320 : Int) + ((IntKind.wrap .i64 ((y_3.getD x.toNat (0 : Int)) - (65536 : Int))).tmod (1024 : Int)))))) else none)) else (F9_j14 n k9_12 x vn_2 (vout, (y_3.getD x.toNat (0 : Int))))))
def F9_l12 (n : Nat) (y_3 : List Int) (k9_12 : ((List UInt8) × Int × Int) → Option ((List UInt8) × Int)) : ((List UInt8) × Int × Int) → Option ((List UInt8) × Int)
  | (vout, vn, x) => (bif (decide (x < ((y_3.length : Nat) : Int))) then (bif inb x y_3.length then (bif (decide ((y_3.getD x.toNat (0 : Int)) > (65535 : Int))) then (F9_j13 n k9_12 y_3 vout x (IntKind.wrap .i64 ((IntKind.wrap .i64 (vn + (1 : Int))) + (1 : Int)))) else (F9_j13 n k9_12 y_3 vout x (IntKind.wrap .i64 (vn + (1 : Int))))) else none) else (some (vout, (0 : Int))))
def F9 (n : Nat) (s : List UInt8) : Option ((List UInt8) × Int) := ((F25 n s).bind fun y_3 => (loopF (F9_l12 n y_3) n (([] : List UInt8), (0 : Int), (0 : Int))))
theorem F9_ok (n : Nat) (s : List UInt8) (r : (List UInt8) × Int) (h : F9 n s = some r) : PureC Try.prog 9 [(.str s)] (.tup (.cons (.str r.1) (.cons (.int .i64 r.2) .nil))) [] := by
  refine PureC.mkS Try.func9 rfl rfl ?_
  intro w0 fz0 hfz
  replace h : ((F25 n s).bind fun y_3 => (loopF (F9_l12 n y_3) n (([] : List UInt8), (0 : Int), (0 : Int)))) = some r := h
  refine TS.seq ?_
  have hq : (True) ∧ ((True) ∧ (True)) := ⟨trivial, ⟨trivial, trivial⟩⟩
  refine TS.reg [] ?_ ?_
  · apply prop_of ?_ hq
    kernel_rfl
  refine XS.then ?_
  refine TS.seq ?_
  have hq : (True) ∧ ((True) ∧ (True)) := ⟨trivial, ⟨trivial, trivial⟩⟩
  refine TS.reg [] ?_ ?_
  · apply prop_of ?_ hq
    kernel_rfl
  refine XS.then ?_
  refine TS.seq ?_
  refine TS.seq ?_
  obtain ⟨y_3, hx1, h⟩ := bind_some' h
  have hq : (True) ∧ ((PureC Try.prog 25 [(.str s)] (.row 0) [(.row 3 (.int .i64) y_3)]) ∧ ((True) ∧ ((True) ∧ (True)))) := ⟨trivial, ⟨F25_ok n s y_3 hx1, ⟨trivial, ⟨trivial, trivial⟩⟩⟩⟩
  refine TS.reg [.none, (.call (.row 0) [(.row 3 (.int .i64) y_3)])] ?_ ?_
  · apply prop_of ?_ hq
    kernel_rfl
  refine XS.then ?_
  refine TS.block ?_
  refine TS.reLoop [0] (mkMask 42 [4, 5, 9, 10, 11]) (D := (List UInt8) × Int × Int) (fun d => match d with | (vout, vn, x) => (mkTs 42 [(4, (.str vout)), (5, (.int .i64 vn)), (9, (.row 0)), (10, (.int .i64 ((y_3.length : Nat) : Int))), (11, (.int .i64 x))], [(.row 3 (.int .i64) y_3)])) (fun n' d => loopF (F9_l12 n y_3) n' d = some r) n (([] : List UInt8), (0 : Int), (0 : Int)) h ?_ (fun d => loopF_zero _ d r) ?_
  · kernel_rfl
  · rintro n12 ⟨vout, vn, x⟩ h
    replace h : (bif (decide (x < ((y_3.length : Nat) : Int))) then (bif inb x y_3.length then (bif (decide ((y_3.getD x.toNat (0 : Int)) > (65535 : Int))) then (F9_j13 n (loopF (F9_l12 n y_3) n12) y_3 vout x (IntKind.wrap .i64 ((IntKind.wrap .i64 (vn + (1 : Int))) + (1 : Int)))) else (F9_j13 n (loopF (F9_l12 n y_3) n12) y_3 vout x (IntKind.wrap .i64 (vn + (1 : Int))))) else none) else (some (vout, (0 : Int)))) = some r := h
    refine TS.seq ?_
    have hq : (True) ∧ (True) := ⟨trivial, trivial⟩
    refine TS.reg [] ?_ ?_
    · apply prop_of ?_ hq
      kernel_rfl
    refine XS.then ?_
    refine TS.seq ?_
    rcases bif_some h with ⟨c2, h⟩ | ⟨c3, h⟩
    · refine TS.cond (decide (x < ((y_3.length : Nat) : Int))) ?_ (fun hcz => ?_) (fun hcz => by rw [c2] at hcz; cases hcz)
      · kernel_rfl
      refine TS.skip ?_
      refine XS.then ?_
      refine TS.seq ?_
      refine TS.block ?_
      refine TS.seq ?_
      obtain ⟨t4, h⟩ := test_some h
      have hq : (inR x y_3.length) ∧ ((x.toNat < y_3.length ∧ (True)) ∧ ((True) ∧ (True))) := ⟨inb_ok t4, ⟨⟨inR_lt (inb_ok t4), trivial⟩, ⟨trivial, trivial⟩⟩⟩
      refine TS.reg [] ?_ ?_
      · apply prop_of ?_ hq
        kernel_rfl
      refine XS.then ?_
      refine TS.seq ?_
      refine TS.seq ?_
      have hq : (True) ∧ ((True) ∧ ((True) ∧ (True))) := ⟨trivial, ⟨trivial, ⟨trivial, trivial⟩⟩⟩
      refine TS.reg [] ?_ ?_
      · apply prop_of ?_ hq
        kernel_rfl
      refine XS.then ?_
      refine TS.seq ?_
      have hq : (True) ∧ ((True) ∧ (True)) := ⟨trivial, ⟨trivial, trivial⟩⟩
      refine TS.reg [] ?_ ?_
      · apply prop_of ?_ hq
        kernel_rfl
      refine XS.then ?_
      refine TS.cut (D := Int) (fun d => match d with | vn_2 => (mkTs 42 [(4, (.str vout)), (5, (.int .i64 vn_2)), (7, (.int .i64 (y_3.getD x.toNat (0 : Int)))), (9, (.row 0)), (10, (.int .i64 ((y_3.length : Nat) : Int))), (11, (.int .i64 x))], [(.row 3 (.int .i64) y_3)])) (fun d => F9_j13 n (loopF (F9_l12 n y_3) n12) y_3 vout x d = some r) ?_ ?_
      · rintro vn_2 h
        replace h : (bif (decide (vn_2 > (126 : Int))) then (some (([] : List UInt8), (2 : Int))) else (bif (decide ((y_3.getD x.toNat (0 : Int)) > (65535 : Int))) then ((F26 n (IntKind.wrap .i64 ((55296 : Int) + (IntKind.wrap .i64 ((IntKind.wrap .i64 ((y_3.getD x.toNat (0 : Int)) - (65536 : Int))).tdiv (1024 : Int)))))).bind fun y_5 => (bif (decide (vout.length + y_5.length ≤ 9223372036854775807)) then (F9_j14 n (loopF (F9_l12 n y_3) n12) x vn_2 ((vout ++ y_5), (IntKind.wrap .i64 ((56320 : Int) + ((IntKind.wrap .i64 ((y_3.getD x.toNat (0 : Int)) - (65536 : Int))).tmod (1024 : Int)))))) else none)) else (F9_j14 n (loopF (F9_l12 n y_3) n12) x vn_2 (vout, (y_3.getD x.toNat (0 : Int)))))) = some r := h
        refine XS.then ?_
        refine TS.seq ?_
        refine TS.seq ?_
        have hq : (True) ∧ ((True) ∧ (True)) := ⟨trivial, ⟨trivial, trivial⟩⟩
        refine TS.reg [] ?_ ?_
        · apply prop_of ?_ hq
          kernel_rfl
        refine XS.then ?_
        rcases bif_some h with ⟨c5, h⟩ | ⟨c6, h⟩
        · refine TS.cond (decide (vn_2 > (126 : Int))) ?_ (fun hcz => ?_) (fun hcz => by rw [c5] at hcz; cases hcz)
          · kernel_rfl
          refine TS.seq ?_
          have hq : (True) ∧ ((True) ∧ (True)) := ⟨trivial, ⟨trivial, trivial⟩⟩
          refine TS.reg [] ?_ ?_
          · apply prop_of ?_ hq
            kernel_rfl
          refine XS.then ?_
          refine TS.ret ?_
          refine XS.passR ?_
          refine XS.blockRet ?_
          refine XS.passR ?_
          refine XS.passR ?_
          refine XS.blockRet ?_
          refine XS.passR ?_
          obtain rfl : (([] : List UInt8), (2 : Int)) = r := Option.some.inj h
          exact XS.fin [] ((True) ∧ ((True) ∧ (True))) (by kernel_rfl) ⟨trivial, ⟨trivial, trivial⟩⟩
        · refine TS.cond (decide (vn_2 > (126 : Int))) ?_ (fun hcz => by rw [c6] at hcz; cases hcz) (fun hcz => ?_)
          · kernel_rfl
          refine TS.skip ?_
          refine XS.then ?_
          refine TS.seq ?_
          refine TS.seq ?_
          have hq : (True) ∧ ((True) ∧ (True)) := ⟨trivial, ⟨trivial, trivial⟩⟩
          refine TS.reg [] ?_ ?_
          · apply prop_of ?_ hq
            kernel_rfl
          refine XS.then ?_
          refine TS.cut (D := (List UInt8) × Int) (fun d => match d with | (vout_2, c) => (mkTs 42 [(4, (.str vout_2)), (5, (.int .i64 vn_2)), (7, (.int .i64 c)), (9, (.row 0)), (10, (.int .i64 ((y_3.length : Nat) : Int))), (11, (.int .i64 x))], [(.row 3 (.int .i64) y_3)])) (fun d => F9_j14 n (loopF (F9_l12 n y_3) n12) x vn_2 d = some r) ?_ ?_
          · rintro ⟨vout_2, c⟩ h
            replace h : ((F26 n c).bind fun y_4 => (bif (decide (vout_2.length + y_4.length ≤ 9223372036854775807)) then ((loopF (F9_l12 n y_3) n12) ((vout_2 ++ y_4), vn_2, (IntKind.wrap .i64 (x + (1 : Int))))) else none)) = some r := h
            refine XS.then ?_
            obtain ⟨y_4, hx7, h⟩ := bind_some' h
            obtain ⟨t8, h⟩ := test_some h
            have hq : (True) ∧ ((True) ∧ ((PureC Try.prog 26 [(.int .i64 c)] (.str y_4) []) ∧ ((vout_2.length + y_4.length ≤ 9223372036854775807) ∧ ((True) ∧ (True))))) := ⟨trivial, ⟨trivial, ⟨F26_ok n c y_4 hx7, ⟨of_decide_eq_true t8, ⟨trivial, trivial⟩⟩⟩⟩⟩
            refine TS.reg [.none, .none, (.call (.str y_4) [])] ?_ ?_
            · apply prop_of ?_ hq
              kernel_rfl
            refine XS.blockEnd ?_
            refine XS.then ?_
            have hq : (True) ∧ ((True) ∧ (True)) := ⟨trivial, ⟨trivial, trivial⟩⟩
            refine TS.reg [] ?_ ?_
            · apply prop_of ?_ hq
              kernel_rfl
            refine XS.reAny [0] (mkMask 42 [4, 5, 9, 10, 11]) ((vout_2 ++ y_4), vn_2, (IntKind.wrap .i64 (x + (1 : Int)))) h ?_
            kernel_rfl
          · rcases bif_some h with ⟨c9, h⟩ | ⟨c10, h⟩
            · refine TS.cond (decide ((y_3.getD x.toNat (0 : Int)) > (65535 : Int))) ?_ (fun hcz => ?_) (fun hcz => by rw [c9] at hcz; cases hcz)
              · kernel_rfl
              refine TS.seq ?_
              obtain ⟨y_5, hx11, h⟩ := bind_some' h
              obtain ⟨t12, h⟩ := test_some h
              have hq : (True) ∧ ((True) ∧ ((True) ∧ (((1024 : Int) ≠ 0) ∧ ((True) ∧ ((PureC Try.prog 26 [(.int .i64 (IntKind.wrap .i64 ((55296 : Int) + (IntKind.wrap .i64 ((IntKind.wrap .i64 ((y_3.getD x.toNat (0 : Int)) - (65536 : Int))).tdiv (1024 : Int))))))] (.str y_5) []) ∧ ((vout.length + y_5.length ≤ 9223372036854775807) ∧ ((True) ∧ (True)))))))) := ⟨trivial, ⟨trivial, ⟨trivial, ⟨by decide, ⟨trivial, ⟨F26_ok n (IntKind.wrap .i64 ((55296 : Int) + (IntKind.wrap .i64 ((IntKind.wrap .i64 ((y_3.getD x.toNat (0 : Int)) - (65536 : Int))).tdiv (1024 : Int))))) y_5 hx11, ⟨of_decide_eq_true t12, ⟨trivial, trivial⟩⟩⟩⟩⟩⟩⟩⟩
              refine TS.reg [.none, .none, .none, .none, .none, (.call (.str y_5) [])] ?_ ?_
              · apply prop_of ?_ hq
                kernel_rfl
              refine XS.then ?_
              have hq : (True) ∧ ((True) ∧ (((1024 : Int) ≠ 0) ∧ ((True) ∧ ((True) ∧ (True))))) := ⟨trivial, ⟨trivial, ⟨by decide, ⟨trivial, ⟨trivial, trivial⟩⟩⟩⟩⟩
              refine TS.reg [] ?_ ?_
              · apply prop_of ?_ hq
                kernel_rfl
              refine XS.reAny [0] (mkMask 42 [4, 5, 7, 9, 10, 11]) ((vout ++ y_5), (IntKind.wrap .i64 ((56320 : Int) + ((IntKind.wrap .i64 ((y_3.getD x.toNat (0 : Int)) - (65536 : Int))).tmod (1024 : Int))))) h ?_
              kernel_rfl
            · refine TS.cond (decide ((y_3.getD x.toNat (0 : Int)) > (65535 : Int))) ?_ (fun hcz => by rw [c10] at hcz; cases hcz) (fun hcz => ?_)
              · kernel_rfl
              refine TS.skip ?_
              refine XS.reAny [0] (mkMask 42 [4, 5, 7, 9, 10, 11]) (vout, (y_3.getD x.toNat (0 : Int))) h ?_
              kernel_rfl
      · rcases bif_some h with ⟨c13, h⟩ | ⟨c14, h⟩
        · refine TS.cond (decide ((y_3.getD x.toNat (0 : Int)) > (65535 : Int))) ?_ (fun hcz => ?_) (fun hcz => by rw [c13] at hcz; cases hcz)
          · kernel_rfl
          have hq : (True) ∧ ((True) ∧ ((True) ∧ (True))) := ⟨trivial, ⟨trivial, ⟨trivial, trivial⟩⟩⟩
          refine TS.reg [] ?_ ?_
          · apply prop_of ?_ hq
            kernel_rfl
          refine XS.reAny [0] (mkMask 42 [4, 5, 7, 9, 10, 11]) (IntKind.wrap .i64 ((IntKind.wrap .i64 (vn + (1 : Int))) + (1 : Int))) h ?_
          kernel_rfl
        · refine TS.cond (decide ((y_3.getD x.toNat (0 : Int)) > (65535 : Int))) ?_ (fun hcz => by rw [c14] at hcz; cases hcz) (fun hcz => ?_)
          · kernel_rfl
          refine TS.skip ?_
          refine XS.reAny [0] (mkMask 42 [4, 5, 7, 9, 10, 11]) (IntKind.wrap .i64 (vn + (1 : Int))) h ?_
          kernel_rfl
    · refine TS.cond (decide (x < ((y_3.length : Nat) : Int))) ?_ (fun hcz => by rw [c3] at hcz; cases hcz) (fun hcz => ?_)
      · kernel_rfl
      refine TS.exit ?_
      refine XS.passE ?_
      refine XS.passE ?_
      refine XS.out ?_
      refine XS.then ?_
      refine TS.seq ?_
      have hq : (True) ∧ ((True) ∧ ((True) ∧ (True))) := ⟨trivial, ⟨trivial, ⟨trivial, trivial⟩⟩⟩
      refine TS.reg [] ?_ ?_
      · apply prop_of ?_ hq
        kernel_rfl
      refine XS.then ?_
      refine TS.ret ?_
      obtain rfl : (vout, (0 : Int)) = r := Option.some.inj h
      exact XS.fin [] ((True) ∧ ((True) ∧ (True))) (by kernel_rfl) ⟨trivial, ⟨trivial, trivial⟩⟩

/-! plugtree/pluglaw.UtfWide -/
def F3 (n : Nat) (s : List UInt8) : Option Bool := ((F8 n s).bind fun y_2 => ((F9 n s).bind fun y_3 => (bif (y_2.1 == y_3.1) then (some (y_2.2 == y_3.2)) else (some false))))
theorem F3_ok (n : Nat) (s : List UInt8) (r : Bool) (h : F3 n s = some r) : PureC Try.prog 3 [(.str s)] (.bool r) [] := by
  refine PureC.mkS Try.func3 rfl rfl ?_
  intro w0 fz0 hfz
  replace h : ((F8 n s).bind fun y_2 => ((F9 n s).bind fun y_3 => (bif (y_2.1 == y_3.1) then (some (y_2.2 == y_3.2)) else (some false)))) = some r := h
  refine TS.seq ?_
  have hq : (True) ∧ (True) := ⟨trivial, trivial⟩
  refine TS.reg [] ?_ ?_
  · apply prop_of ?_ hq
    kernel_rfl
  refine XS.then ?_
  refine TS.seq ?_
  obtain ⟨y_2, hx1, h⟩ := bind_some' h
  have hq : (True) ∧ ((PureC Try.prog 8 [(.str s)] (.tup (.cons (.str y_2.1) (.cons (.int .i64 y_2.2) .nil))) []) ∧ ((True) ∧ ((True) ∧ ((True) ∧ ((True) ∧ ((True) ∧ (True))))))) := ⟨trivial, ⟨F8_ok n s y_2 hx1, ⟨trivial, ⟨trivial, ⟨trivial, ⟨trivial, ⟨trivial, trivial⟩⟩⟩⟩⟩⟩⟩
  refine TS.reg [.none, (.call (.tup (.cons (.str y_2.1) (.cons (.int .i64 y_2.2) .nil))) [])] ?_ ?_
  · apply prop_of ?_ hq
    kernel_rfl
  refine XS.then ?_
  refine TS.seq ?_
  obtain ⟨y_3, hx2, h⟩ := bind_some' h
  have hq : (True) ∧ ((PureC Try.prog 9 [(.str s)] (.tup (.cons (.str y_3.1) (.cons (.int .i64 y_3.2) .nil))) []) ∧ ((True) ∧ ((True) ∧ ((True) ∧ ((True) ∧ ((True) ∧ (True))))))) := ⟨trivial, ⟨F9_ok n s y_3 hx2, ⟨trivial, ⟨trivial, ⟨trivial, ⟨trivial, ⟨trivial, trivial⟩⟩⟩⟩⟩⟩⟩
  refine TS.reg [.none, (.call (.tup (.cons (.str y_3.1) (.cons (.int .i64 y_3.2) .nil))) [])] ?_ ?_
  · apply prop_of ?_ hq
    kernel_rfl
  refine XS.then ?_
  refine TS.seq ?_
  rcases bif_some h with ⟨c3, h⟩ | ⟨c4, h⟩
  · have hq : (True) ∧ ((True) ∧ ((True) ∧ (((True) ∧ (y_2.1 == y_3.1) = true) ∧ ((True) ∧ ((True) ∧ ((True) ∧ ((True) ∧ ((True) ∧ (True))))))))) := ⟨trivial, ⟨trivial, ⟨trivial, ⟨⟨trivial, c3⟩, ⟨trivial, ⟨trivial, ⟨trivial, ⟨trivial, ⟨trivial, trivial⟩⟩⟩⟩⟩⟩⟩⟩⟩
    refine TS.reg [.none, .none, .none, .dec true] ?_ ?_
    · apply prop_of ?_ hq
      kernel_rfl
    refine XS.then ?_
    refine TS.ret ?_
    obtain rfl : (y_2.2 == y_3.2) = r := Option.some.inj h
    exact XS.fin [] ((True) ∧ (True)) (by kernel_rfl) ⟨trivial, trivial⟩
  · have hq : (True) ∧ ((True) ∧ ((True) ∧ (((True) ∧ (y_2.1 == y_3.1) = false) ∧ ((True) ∧ ((True) ∧ (True)))))) := ⟨trivial, ⟨trivial, ⟨trivial, ⟨⟨trivial, c4⟩, ⟨trivial, ⟨trivial, trivial⟩⟩⟩⟩⟩⟩
    refine TS.reg [.none, .none, .none, .dec false] ?_ ?_
    · apply prop_of ?_ hq
      kernel_rfl
    refine XS.then ?_
    refine TS.ret ?_
    obtain rfl : false = r := Option.some.inj h
    exact XS.fin [] ((True) ∧ (True)) (by kernel_rfl) ⟨trivial, trivial⟩

/-! plugtree/utf.Narrow$1 -/
def F27 (n : Nat) (i : Int) (x : List UInt8) : Option Int := (bif (decide ((IntKind.wrap .i64 (i + (1 : Int))) ≥ ((x.length : Nat) : Int))) then (some (0 : Int)) else (bif inb i x.length then (bif inb (IntKind.wrap .i64 (i + (1 : Int))) x.length then (some (bitsI .or .i32 (IntKind.wrap .i32 ((((x.getD i.toNat 0).toNat : Nat) : Int))) (shlI .i32 (IntKind.wrap .i32 ((((x.getD ((IntKind.wrap .i64 (i + (1 : Int))).toNat) 0).toNat : Nat) : Int))) (8 : Int)))) else none) else none))
theorem F27_ok (n : Nat) (i : Int) (x : List UInt8) (r : Int) (h : F27 n i x = some r) : PureC Try.prog 27 [(.int .i64 i), (.pv (.str x))] (.int .i32 r) [] := by
  refine PureC.mkS Try.func27 rfl rfl ?_
  intro w0 fz0 hfz
  replace h : (bif (decide ((IntKind.wrap .i64 (i + (1 : Int))) ≥ ((x.length : Nat) : Int))) then (some (0 : Int)) else (bif inb i x.length then (bif inb (IntKind.wrap .i64 (i + (1 : Int))) x.length then (some (bitsI .or .i32 (IntKind.wrap .i32 ((((x.getD i.toNat 0).toNat : Nat) : Int))) (shlI .i32 (IntKind.wrap .i32 ((((x.getD ((IntKind.wrap .i64 (i + (1 : Int))).toNat) 0).toNat : Nat) : Int))) (8 : Int)))) else none) else none)) = some r := h
  refine TS.seq ?_
  have hq : (True) ∧ (True) := ⟨trivial, trivial⟩
  refine TS.reg [] ?_ ?_
  · apply prop_of ?_ hq
    kernel_rfl
  refine XS.then ?_
  refine TS.seq ?_
  refine TS.seq ?_
  have hq : (True) ∧ ((True) ∧ ((True) ∧ ((True) ∧ ((True) ∧ (True))))) := ⟨trivial, ⟨trivial, ⟨trivial, ⟨trivial, ⟨trivial, trivial⟩⟩⟩⟩⟩
  refine TS.reg [] ?_ ?_
  · apply prop_of ?_ hq
    kernel_rfl
  refine XS.then ?_
  rcases bif_some h with ⟨c1, h⟩ | ⟨c2, h⟩
  · refine TS.cond (decide ((IntKind.wrap .i64 (i + (1 : Int))) ≥ ((x.length : Nat) : Int))) ?_ (fun hcz => ?_) (fun hcz => by rw [c1] at hcz; cases hcz)
    · kernel_rfl
    refine TS.seq ?_
    have hq : (True) ∧ (True) := ⟨trivial, trivial⟩
    refine TS.reg [] ?_ ?_
    · apply prop_of ?_ hq
      kernel_rfl
    refine XS.then ?_
    refine TS.ret ?_
    refine XS.passR ?_
    obtain rfl : (0 : Int) = r := Option.some.inj h
    exact XS.fin [] ((True) ∧ (True)) (by kernel_rfl) ⟨trivial, trivial⟩
  · refine TS.cond (decide ((IntKind.wrap .i64 (i + (1 : Int))) ≥ ((x.length : Nat) : Int))) ?_ (fun hcz => by rw [c2] at hcz; cases hcz) (fun hcz => ?_)
    · kernel_rfl
    refine TS.skip ?_
    refine XS.then ?_
    refine TS.seq ?_
    obtain ⟨t3, h⟩ := test_some h
    obtain ⟨t4, h⟩ := test_some h
    have hq : ((True) ∧ ((True) ∧ ((inR i x.length) ∧ ((True) ∧ ((True) ∧ ((True) ∧ ((True) ∧ ((inR (IntKind.wrap .i64 (i + (1 : Int))) x.length) ∧ ((True) ∧ ((0 ≤ (8 : Int)) ∧ ((True) ∧ (True)))))))))))) ∧ ((True) ∧ (True)) := ⟨⟨trivial, ⟨trivial, ⟨inb_ok t3, ⟨trivial, ⟨trivial, ⟨trivial, ⟨trivial, ⟨inb_ok t4, ⟨trivial, ⟨by decide, ⟨trivial, trivial⟩⟩⟩⟩⟩⟩⟩⟩⟩⟩⟩, ⟨trivial, trivial⟩⟩
    refine TS.draw 11 [] [] (by kernel_rfl) ?_ ?_
    · apply prop_of ?_ hq
      kernel_rfl
    refine XS.then ?_
    refine TS.ret ?_
    obtain rfl : (bitsI .or .i32 (IntKind.wrap .i32 ((((x.getD i.toNat 0).toNat : Nat) : Int))) (shlI .i32 (IntKind.wrap .i32 ((((x.getD ((IntKind.wrap .i64 (i + (1 : Int))).toNat) 0).toNat : Nat) : Int))) (8 : Int))) = r := Option.some.inj h
    exact XS.fin [] ((True) ∧ (True)) (by kernel_rfl) ⟨trivial, trivial⟩

/-! plugtree/utf.Narrow -/
def F10_j8 (n : Nat) (k10_7 : (Int × (List Int)) → Option ((List UInt8) × Int)) (i : Int) (m1 : List Int) (y_3 : Int) (y_4 : Int) : Bool → Option ((List UInt8) × Int)
  | x => (bif x then (bif (decide (m1.length + [(IntKind.wrap .i32 ((IntKind.wrap .i32 ((65536 : Int) + (shlI .i32 (IntKind.wrap .i32 (y_3 - (55296 : Int))) (10 : Int)))) + (IntKind.wrap .i32 (y_4 - (56320 : Int)))))].length ≤ 35184372088832)) then (k10_7 ((IntKind.wrap .i64 ((IntKind.wrap .i64 (i + (2 : Int))) + (2 : Int))), (m1 ++ [(IntKind.wrap .i32 ((IntKind.wrap .i32 ((65536 : Int) + (shlI .i32 (IntKind.wrap .i32 (y_3 - (55296 : Int))) (10 : Int)))) + (IntKind.wrap .i32 (y_4 - (56320 : Int)))))]))) else none) else (bif (decide (y_3 ≥ (55296 : Int))) then (bif (decide (y_3 ≤ (57343 : Int))) then (bif (decide (m1.length + [(65533 : Int)].length ≤ 35184372088832)) then (k10_7 ((IntKind.wrap .i64 (i + (2 : Int))), (m1 ++ [(65533 : Int)]))) else none) else (bif (decide (m1.length + [y_3].length ≤ 35184372088832)) then (k10_7 ((IntKind.wrap .i64 (i + (2 : Int))), (m1 ++ [y_3]))) else none)) else (bif (decide (m1.length + [y_3].length ≤ 35184372088832)) then (k10_7 ((IntKind.wrap .i64 (i + (2 : Int))), (m1 ++ [y_3]))) else none)))
def F10_l7 (n : Nat) (t : List UInt8) (k10_7 : (Int × (List Int)) → Option ((List UInt8) × Int)) : (Int × (List Int)) → Option ((List UInt8) × Int)
  | (i, m1) => (bif (decide (i < ((t.length : Nat) : Int))) then ((F27 n i t).bind fun y_3 => ((F27 n (IntKind.wrap .i64 (i + (2 : Int))) t).bind fun y_4 => (bif (decide (y_3 ≥ (55296 : Int))) then (bif (decide (y_3 ≤ (56319 : Int))) then (bif (decide (y_4 ≥ (56320 : Int))) then (F10_j8 n k10_7 i m1 y_3 y_4 (decide (y_4 ≤ (57343 : Int)))) else (F10_j8 n k10_7 i m1 y_3 y_4 false)) else (F10_j8 n k10_7 i m1 y_3 y_4 false)) else (F10_j8 n k10_7 i m1 y_3 y_4 false)))) else (some ((strOfRunes m1), (0 : Int))))
def F10 (n : Nat) (t : List UInt8) : Option ((List UInt8) × Int) := (bif ((((t.length : Nat) : Int).tmod (2 : Int)) != (0 : Int)) then (some (([] : List UInt8), (4 : Int))) else (bif (decide (((t.length : Nat) : Int) > (252 : Int))) then (some (([] : List UInt8), (2 : Int))) else (loopF (F10_l7 n t) n ((0 : Int), ([] : List Int)))))
theorem F10_ok (n : Nat) (t : List UInt8) (r : (List UInt8) × Int) (h : F10 n t = some r) : PureC Try.prog 10 [(.str t)] (.tup (.cons (.str r.1) (.cons (.int .i64 r.2) .nil))) [] := by
  refine PureC.mkS Try.func10 rfl rfl ?_
  intro w0 fz0 hfz
  replace h : (bif ((((t.length : Nat) : Int).tmod (2 : Int)) != (0 : Int)) then (some (([] : List UInt8), (4 : Int))) else (bif (decide (((t.length : Nat) : Int) > (252 : Int))) then (some (([] : List UInt8), (2 : Int))) else (loopF (F10_l7 n t) n ((0 : Int), ([] : List Int))))) = some r := h
  refine TS.seq ?_
  have hq : (True) ∧ ((True) ∧ ((True) ∧ (True))) := ⟨trivial, ⟨trivial, ⟨trivial, trivial⟩⟩⟩
  refine TS.reg [] ?_ ?_
  · apply prop_of ?_ hq
    kernel_rfl
  refine XS.then ?_
  refine TS.seq ?_
  refine TS.block ?_
  refine TS.seq ?_
  have hq : (True) ∧ ((True) ∧ (((2 : Int) ≠ 0) ∧ ((True) ∧ ((True) ∧ (True))))) := ⟨trivial, ⟨trivial, ⟨by decide, ⟨trivial, ⟨trivial, trivial⟩⟩⟩⟩⟩
  refine TS.reg [] ?_ ?_
  · apply prop_of ?_ hq
    kernel_rfl
  refine XS.then ?_
  rcases bif_some h with ⟨c1, h⟩ | ⟨c2, h⟩
  · refine TS.cond ((((t.length : Nat) : Int).tmod (2 : Int)) != (0 : Int)) ?_ (fun hcz => ?_) (fun hcz => by rw [c1] at hcz; cases hcz)
    · kernel_rfl
    refine TS.seq ?_
    have hq : (True) ∧ ((True) ∧ (True)) := ⟨trivial, ⟨trivial, trivial⟩⟩
    refine TS.reg [] ?_ ?_
    · apply prop_of ?_ hq
      kernel_rfl
    refine XS.then ?_
    refine TS.ret ?_
    refine XS.blockRet ?_
    refine XS.passR ?_
    obtain rfl : (([] : List UInt8), (4 : Int)) = r := Option.some.inj h
    exact XS.fin [] ((True) ∧ ((True) ∧ (True))) (by kernel_rfl) ⟨trivial, ⟨trivial, trivial⟩⟩
  · refine TS.cond ((((t.length : Nat) : Int).tmod (2 : Int)) != (0 : Int)) ?_ (fun hcz => by rw [c2] at hcz; cases hcz) (fun hcz => ?_)
    · kernel_rfl
    refine TS.seq ?_
    have hq : (True) ∧ ((True) ∧ ((True) ∧ ((True) ∧ (True)))) := ⟨trivial, ⟨trivial, ⟨trivial, ⟨trivial, trivial⟩⟩⟩⟩
    refine TS.reg [] ?_ ?_
    · apply prop_of ?_ hq
      kernel_rfl
    refine XS.then ?_
    rcases bif_some h with ⟨c3, h⟩ | ⟨c4, h⟩
    · refine TS.cond (decide (((t.length : Nat) : Int) > (252 : Int))) ?_ (fun hcz => ?_) (fun hcz => by rw [c3] at hcz; cases hcz)
      · kernel_rfl
      refine TS.seq ?_
      have hq : (True) ∧ ((True) ∧ (True)) := ⟨trivial, ⟨trivial, trivial⟩⟩
      refine TS.reg [] ?_ ?_
      · apply prop_of ?_ hq
        kernel_rfl
      refine XS.then ?_
      refine TS.ret ?_
      refine XS.blockRet ?_
      refine XS.passR ?_
      obtain rfl : (([] : List UInt8), (2 : Int)) = r := Option.some.inj h
      exact XS.fin [] ((True) ∧ ((True) ∧ (True))) (by kernel_rfl) ⟨trivial, ⟨trivial, trivial⟩⟩
    · refine TS.cond (decide (((t.length : Nat) : Int) > (252 : Int))) ?_ (fun hcz => by rw [c4] at hcz; cases hcz) (fun hcz => ?_)
      · kernel_rfl
      refine TS.skip ?_
      refine XS.blockEnd ?_
      refine XS.then ?_
      refine TS.seq ?_
      have hq : (True) ∧ ((True) ∧ (True)) := ⟨trivial, ⟨trivial, trivial⟩⟩
      refine TS.reg [] ?_ ?_
      · apply prop_of ?_ hq
        kernel_rfl
      refine XS.then ?_
      refine TS.seq ?_
      have hq : (True) ∧ (True) := ⟨trivial, trivial⟩
      refine TS.reg [] ?_ ?_
      · apply prop_of ?_ hq
        kernel_rfl
      refine XS.then ?_
      refine TS.seq ?_
      refine TS.seq ?_
      have hq : (True) ∧ (True) := ⟨trivial, trivial⟩
      refine TS.reg [] ?_ ?_
      · apply prop_of ?_ hq
        kernel_rfl
      refine XS.then ?_
      refine TS.block ?_
      refine TS.wk (.row false 5 [] 21 (.int .i32)) ?_
      refine TS.reLoop [0, 1] (mkMask 75 [1, 4, 5, 6]) (D := Int × (List Int)) (fun d => match d with | (i, m1) => (mkTs 75 [(1, (.ptr 0 [])), (4, (.fn 27 (.cons (.ptr 0 []) .nil))), (5, (.row 1)), (6, (.int .i64 i))], [(.box 9 (.str t)), (.row 21 (.int .i32) m1)])) (fun n' d => loopF (F10_l7 n t) n' d = some r) n ((0 : Int), ([] : List Int)) h ?_ (fun d => loopF_zero _ d r) ?_
      · kernel_rfl
      · rintro n7 ⟨i, m1⟩ h
        replace h : (bif (decide (i < ((t.length : Nat) : Int))) then ((F27 n i t).bind fun y_3 => ((F27 n (IntKind.wrap .i64 (i + (2 : Int))) t).bind fun y_4 => (bif (decide (y_3 ≥ (55296 : Int))) then (bif (decide (y_3 ≤ (56319 : Int))) then (bif (decide (y_4 ≥ (56320 : Int))) then (F10_j8 n (loopF (F10_l7 n t) n7) i m1 y_3 y_4 (decide (y_4 ≤ (57343 : Int)))) else (F10_j8 n (loopF (F10_l7 n t) n7) i m1 y_3 y_4 false)) else (F10_j8 n (loopF (F10_l7 n t) n7) i m1 y_3 y_4 false)) else (F10_j8 n (loopF (F10_l7 n t) n7) i m1 y_3 y_4 false)))) else (some ((strOfRunes m1), (0 : Int)))) = some r := h
        refine TS.seq ?_
        refine TS.seq ?_
        have hq : (True) ∧ ((True) ∧ ((True) ∧ ((True) ∧ (True)))) := ⟨trivial, ⟨trivial, ⟨trivial, ⟨trivial, trivial⟩⟩⟩⟩
        refine TS.reg [] ?_ ?_
        · apply prop_of ?_ hq
          kernel_rfl
        refine XS.then ?_
        rcases bif_some h with ⟨c5, h⟩ | ⟨c6, h⟩
        · refine TS.cond (decide (i < ((t.length : Nat) : Int))) ?_ (fun hcz => ?_) (fun hcz => by rw [c5] at hcz; cases hcz)
          · kernel_rfl
          refine TS.skip ?_
          refine XS.then ?_
          refine TS.seq ?_
          refine TS.block ?_
          refine TS.seq ?_
          obtain ⟨y_3, hx7, h⟩ := bind_some' h
          obtain ⟨y_4, hx8, h⟩ := bind_some' h
          have hq : (True) ∧ ((True) ∧ ((((True) ∧ ((True) ∧ (True))) ∧ PureC Try.prog 27 [(.int .i64 i), (.pv (.str t))] (.int .i32 y_3) []) ∧ ((True) ∧ ((True) ∧ ((True) ∧ ((((True) ∧ ((True) ∧ (True))) ∧ PureC Try.prog 27 [(.int .i64 (IntKind.wrap .i64 (i + (2 : Int)))), (.pv (.str t))] (.int .i32 y_4) []) ∧ ((True) ∧ ((True) ∧ (True))))))))) := ⟨trivial, ⟨trivial, ⟨⟨⟨trivial, ⟨trivial, trivial⟩⟩, F27_ok n i t y_3 hx7⟩, ⟨trivial, ⟨trivial, ⟨trivial, ⟨⟨⟨trivial, ⟨trivial, trivial⟩⟩, F27_ok n (IntKind.wrap .i64 (i + (2 : Int))) t y_4 hx8⟩, ⟨trivial, ⟨trivial, trivial⟩⟩⟩⟩⟩⟩⟩⟩⟩
          refine TS.reg [.none, .none, (.call (.int .i32 y_3) []), .none, .none, .none, (.call (.int .i32 y_4) [])] ?_ ?_
          · apply prop_of ?_ hq
            kernel_rfl
          refine XS.then ?_
          refine TS.block ?_
          refine TS.seq ?_
          refine TS.cut (D := Bool) (fun d => match d with | x => (mkTs 75 [(1, (.ptr 0 [])), (4, (.fn 27 (.cons (.ptr 0 []) .nil))), (5, (.row 1)), (6, (.int .i64 i)), (7, (.int .i32 y_3)), (8, (.int .i32 y_4)), (36, (.bool x))], [(.box 9 (.str t)), (.row 21 (.int .i32) m1)])) (fun d => F10_j8 n (loopF (F10_l7 n t) n7) i m1 y_3 y_4 d = some r) ?_ ?_
          · rintro x h
            replace h : (bif x then (bif (decide (m1.length + [(IntKind.wrap .i32 ((IntKind.wrap .i32 ((65536 : Int) + (shlI .i32 (IntKind.wrap .i32 (y_3 - (55296 : Int))) (10 : Int)))) + (IntKind.wrap .i32 (y_4 - (56320 : Int)))))].length ≤ 35184372088832)) then ((loopF (F10_l7 n t) n7) ((IntKind.wrap .i64 ((IntKind.wrap .i64 (i + (2 : Int))) + (2 : Int))), (m1 ++ [(IntKind.wrap .i32 ((IntKind.wrap .i32 ((65536 : Int) + (shlI .i32 (IntKind.wrap .i32 (y_3 - (55296 : Int))) (10 : Int)))) + (IntKind.wrap .i32 (y_4 - (56320 : Int)))))]))) else none) else (bif (decide (y_3 ≥ (55296 : Int))) then (bif (decide (y_3 ≤ (57343 : Int))) then (bif (decide (m1.length + [(65533 : Int)].length ≤ 35184372088832)) then ((loopF (F10_l7 n t) n7) ((IntKind.wrap .i64 (i + (2 : Int))), (m1 ++ [(65533 : Int)]))) else none) else (bif (decide (m1.length + [y_3].length ≤ 35184372088832)) then ((loopF (F10_l7 n t) n7) ((IntKind.wrap .i64 (i + (2 : Int))), (m1 ++ [y_3]))) else none)) else (bif (decide (m1.length + [y_3].length ≤ 35184372088832)) then ((loopF (F10_l7 n t) n7) ((IntKind.wrap .i64 (i + (2 : Int))), (m1 ++ [y_3]))) else none))) = some r := h
            refine XS.then ?_
            rcases bif_some h with ⟨c9, h⟩ | ⟨c10, h⟩
            · refine TS.cond x ?_ (fun hcz => ?_) (fun hcz => by rw [c9] at hcz; cases hcz)
              · kernel_rfl
              refine TS.seq ?_
              obtain ⟨t11, h⟩ := test_some h
              have hq : (True) ∧ ((True) ∧ ((True) ∧ ((0 ≤ (10 : Int)) ∧ ((True) ∧ ((True) ∧ ((True) ∧ ((True) ∧ (((0 < 1 ∧ True) ∧ (True)) ∧ ((m1.length + [(IntKind.wrap .i32 ((IntKind.wrap .i32 ((65536 : Int) + (shlI .i32 (IntKind.wrap .i32 (y_3 - (55296 : Int))) (10 : Int)))) + (IntKind.wrap .i32 (y_4 - (56320 : Int)))))].length ≤ 35184372088832) ∧ ((True) ∧ (True))))))))))) := ⟨trivial, ⟨trivial, ⟨trivial, ⟨by decide, ⟨trivial, ⟨trivial, ⟨trivial, ⟨trivial, ⟨⟨⟨by decide, trivial⟩, trivial⟩, ⟨of_decide_eq_true t11, ⟨trivial, trivial⟩⟩⟩⟩⟩⟩⟩⟩⟩⟩⟩
              refine TS.reg [] ?_ ?_
              · apply prop_of ?_ hq
                kernel_rfl
              refine XS.then ?_
              have hq : (True) ∧ ((True) ∧ ((True) ∧ (True))) := ⟨trivial, ⟨trivial, ⟨trivial, trivial⟩⟩⟩
              refine TS.reg [] ?_ ?_
              · apply prop_of ?_ hq
                kernel_rfl
              refine XS.blockEnd ?_
              refine XS.blockEnd ?_
              refine XS.then ?_
              have hq : (True) ∧ ((True) ∧ ((True) ∧ (True))) := ⟨trivial, ⟨trivial, ⟨trivial, trivial⟩⟩⟩
              refine TS.reg [] ?_ ?_
              · apply prop_of ?_ hq
                kernel_rfl
              refine XS.reAny [0, 3] (mkMask 75 [1, 4, 5, 6]) ((IntKind.wrap .i64 ((IntKind.wrap .i64 (i + (2 : Int))) + (2 : Int))), (m1 ++ [(IntKind.wrap .i32 ((IntKind.wrap .i32 ((65536 : Int) + (shlI .i32 (IntKind.wrap .i32 (y_3 - (55296 : Int))) (10 : Int)))) + (IntKind.wrap .i32 (y_4 - (56320 : Int)))))])) h ?_
              kernel_rfl
            · refine TS.cond x ?_ (fun hcz => by rw [c10] at hcz; cases hcz) (fun hcz => ?_)
              · kernel_rfl
              refine TS.seq ?_
              rcases bif_some h with ⟨c12, h⟩ | ⟨c13, h⟩
              · have hq : (True) ∧ ((True) ∧ (((True) ∧ (decide (y_3 ≥ (55296 : Int))) = true) ∧ ((True) ∧ ((True) ∧ ((True) ∧ ((True) ∧ (True))))))) := ⟨trivial, ⟨trivial, ⟨⟨trivial, c12⟩, ⟨trivial, ⟨trivial, ⟨trivial, ⟨trivial, trivial⟩⟩⟩⟩⟩⟩⟩
                refine TS.reg [.none, .none, .dec true] ?_ ?_
                · apply prop_of ?_ hq
                  kernel_rfl
                refine XS.then ?_
                rcases bif_some h with ⟨c14, h⟩ | ⟨c15, h⟩
                · refine TS.cond (decide (y_3 ≤ (57343 : Int))) ?_ (fun hcz => ?_) (fun hcz => by rw [c14] at hcz; cases hcz)
                  · kernel_rfl
                  obtain ⟨t16, h⟩ := test_some h
                  have hq : (True) ∧ (((0 < 1 ∧ True) ∧ (True)) ∧ ((m1.length + [(65533 : Int)].length ≤ 35184372088832) ∧ ((True) ∧ (True)))) := ⟨trivial, ⟨⟨⟨by decide, trivial⟩, trivial⟩, ⟨of_decide_eq_true t16, ⟨trivial, trivial⟩⟩⟩⟩
                  refine TS.reg [] ?_ ?_
                  · apply prop_of ?_ hq
                    kernel_rfl
                  refine XS.blockEnd ?_
                  refine XS.blockEnd ?_
                  refine XS.then ?_
                  have hq : (True) ∧ ((True) ∧ ((True) ∧ (True))) := ⟨trivial, ⟨trivial, ⟨trivial, trivial⟩⟩⟩
                  refine TS.reg [] ?_ ?_
                  · apply prop_of ?_ hq
                    kernel_rfl
                  refine XS.reAny [0, 3] (mkMask 75 [1, 4, 5, 6]) ((IntKind.wrap .i64 (i + (2 : Int))), (m1 ++ [(65533 : Int)])) h ?_
                  kernel_rfl
                · refine TS.cond (decide (y_3 ≤ (57343 : Int))) ?_ (fun hcz => by rw [c15] at hcz; cases hcz) (fun hcz => ?_)
                  · kernel_rfl
                  obtain ⟨t17, h⟩ := test_some h
                  have hq : (True) ∧ ((True) ∧ (((0 < 1 ∧ True) ∧ (True)) ∧ ((m1.length + [y_3].length ≤ 35184372088832) ∧ ((True) ∧ (True))))) := ⟨trivial, ⟨trivial, ⟨⟨⟨by decide, trivial⟩, trivial⟩, ⟨of_decide_eq_true t17, ⟨trivial, trivial⟩⟩⟩⟩⟩
                  refine TS.reg [] ?_ ?_
                  · apply prop_of ?_ hq
                    kernel_rfl
                  refine XS.blockEnd ?_
                  refine XS.blockEnd ?_
                  refine XS.then ?_
                  have hq : (True) ∧ ((True) ∧ ((True) ∧ (True))) := ⟨trivial, ⟨trivial, ⟨trivial, trivial⟩⟩⟩
                  refine TS.reg [] ?_ ?_
                  · apply prop_of ?_ hq
                    kernel_rfl
                  refine XS.reAny [0, 3] (mkMask 75 [1, 4, 5, 6]) ((IntKind.wrap .i64 (i + (2 : Int))), (m1 ++ [y_3])) h ?_
                  kernel_rfl
              · have hq : (True) ∧ ((True) ∧ (((True) ∧ (decide (y_3 ≥ (55296 : Int))) = false) ∧ ((True) ∧ ((True) ∧ (True))))) := ⟨trivial, ⟨trivial, ⟨⟨trivial, c13⟩, ⟨trivial, ⟨trivial, trivial⟩⟩⟩⟩⟩
                refine TS.reg [.none, .none, .dec false] ?_ ?_
                · apply prop_of ?_ hq
                  kernel_rfl
                refine XS.then ?_
                refine TS.no ?_ ?_
                · kernel_rfl
                obtain ⟨t18, h⟩ := test_some h
                have hq : (True) ∧ ((True) ∧ (((0 < 1 ∧ True) ∧ (True)) ∧ ((m1.length + [y_3].length ≤ 35184372088832) ∧ ((True) ∧ (True))))) := ⟨trivial, ⟨trivial, ⟨⟨⟨by decide, trivial⟩, trivial⟩, ⟨of_decide_eq_true t18, ⟨trivial, trivial⟩⟩⟩⟩⟩
                refine TS.reg [] ?_ ?_
                · apply prop_of ?_ hq
                  kernel_rfl
                refine XS.blockEnd ?_
                refine XS.blockEnd ?_
                refine XS.then ?_
                have hq : (True) ∧ ((True) ∧ ((True) ∧ (True))) := ⟨trivial, ⟨trivial, ⟨trivial, trivial⟩⟩⟩
                refine TS.reg [] ?_ ?_
                · apply prop_of ?_ hq
                  kernel_rfl
                refine XS.reAny [0, 3] (mkMask 75 [1, 4, 5, 6]) ((IntKind.wrap .i64 (i + (2 : Int))), (m1 ++ [y_3])) h ?_
                kernel_rfl
          · rcases bif_some h with ⟨c19, h⟩ | ⟨c20, h⟩
            · rcases bif_some h with ⟨c21, h⟩ | ⟨c22, h⟩
              · rcases bif_some h with ⟨c23, h⟩ | ⟨c24, h⟩
                · have hq : (True) ∧ ((True) ∧ (((True) ∧ (decide (y_3 ≥ (55296 : Int))) = true) ∧ ((True) ∧ ((True) ∧ ((True) ∧ (((True) ∧ (decide (y_3 ≤ (56319 : Int))) = true) ∧ ((True) ∧ ((True) ∧ ((True) ∧ (((True) ∧ (decide (y_4 ≥ (56320 : Int))) = true) ∧ ((True) ∧ ((True) ∧ ((True) ∧ ((True) ∧ (True))))))))))))))) := ⟨trivial, ⟨trivial, ⟨⟨trivial, c19⟩, ⟨trivial, ⟨trivial, ⟨trivial, ⟨⟨trivial, c21⟩, ⟨trivial, ⟨trivial, ⟨trivial, ⟨⟨trivial, c23⟩, ⟨trivial, ⟨trivial, ⟨trivial, ⟨trivial, trivial⟩⟩⟩⟩⟩⟩⟩⟩⟩⟩⟩⟩⟩⟩⟩
                  refine TS.reg [.none, .none, .dec true, .none, .none, .none, .dec true, .none, .none, .none, .dec true] ?_ ?_
                  · apply prop_of ?_ hq
                    kernel_rfl
                  refine XS.reAny [0, 1] (mkMask 75 [1, 4, 5, 6, 7, 8, 36]) (decide (y_4 ≤ (57343 : Int))) h ?_
                  kernel_rfl
                · have hq : (True) ∧ ((True) ∧ (((True) ∧ (decide (y_3 ≥ (55296 : Int))) = true) ∧ ((True) ∧ ((True) ∧ ((True) ∧ (((True) ∧ (decide (y_3 ≤ (56319 : Int))) = true) ∧ ((True) ∧ ((True) ∧ ((True) ∧ (((True) ∧ (decide (y_4 ≥ (56320 : Int))) = false) ∧ ((True) ∧ ((True) ∧ (True))))))))))))) := ⟨trivial, ⟨trivial, ⟨⟨trivial, c19⟩, ⟨trivial, ⟨trivial, ⟨trivial, ⟨⟨trivial, c21⟩, ⟨trivial, ⟨trivial, ⟨trivial, ⟨⟨trivial, c24⟩, ⟨trivial, ⟨trivial, trivial⟩⟩⟩⟩⟩⟩⟩⟩⟩⟩⟩⟩⟩
                  refine TS.reg [.none, .none, .dec true, .none, .none, .none, .dec true, .none, .none, .none, .dec false] ?_ ?_
                  · apply prop_of ?_ hq
                    kernel_rfl
                  refine XS.reAny [0, 1] (mkMask 75 [1, 4, 5, 6, 7, 8, 36]) false h ?_
                  kernel_rfl
              · have hq : (True) ∧ ((True) ∧ (((True) ∧ (decide (y_3 ≥ (55296 : Int))) = true) ∧ ((True) ∧ ((True) ∧ ((True) ∧ (((True) ∧ (decide (y_3 ≤ (56319 : Int))) = false) ∧ ((True) ∧ ((True) ∧ ((True) ∧ ((True) ∧ (True))))))))))) := ⟨trivial, ⟨trivial, ⟨⟨trivial, c19⟩, ⟨trivial, ⟨trivial, ⟨trivial, ⟨⟨trivial, c22⟩, ⟨trivial, ⟨trivial, ⟨trivial, ⟨trivial, trivial⟩⟩⟩⟩⟩⟩⟩⟩⟩⟩⟩
                refine TS.reg [.none, .none, .dec true, .none, .none, .none, .dec false] ?_ ?_
                · apply prop_of ?_ hq
                  kernel_rfl
                refine XS.reAny [0, 1] (mkMask 75 [1, 4, 5, 6, 7, 8, 36]) false h ?_
                kernel_rfl
            · have hq : (True) ∧ ((True) ∧ (((True) ∧ (decide (y_3 ≥ (55296 : Int))) = false) ∧ ((True) ∧ ((True) ∧ ((True) ∧ ((True) ∧ ((True) ∧ ((True) ∧ (True))))))))) := ⟨trivial, ⟨trivial, ⟨⟨trivial, c20⟩, ⟨trivial, ⟨trivial, ⟨trivial, ⟨trivial, ⟨trivial, ⟨trivial, trivial⟩⟩⟩⟩⟩⟩⟩⟩⟩
              refine TS.reg [.none, .none, .dec false] ?_ ?_
              · apply prop_of ?_ hq
                kernel_rfl
              refine XS.reAny [0, 1] (mkMask 75 [1, 4, 5, 6, 7, 8, 36]) false h ?_
              kernel_rfl
        · refine TS.cond (decide (i < ((t.length : Nat) : Int))) ?_ (fun hcz => by rw [c6] at hcz; cases hcz) (fun hcz => ?_)
          · kernel_rfl
          refine TS.exit ?_
          refine XS.passE ?_
          refine XS.passE ?_
          refine XS.out ?_
          refine XS.then ?_
          refine TS.seq ?_
          have hq : (True) ∧ ((True) ∧ ((True) ∧ ((True) ∧ (True)))) := ⟨trivial, ⟨trivial, ⟨trivial, ⟨trivial, trivial⟩⟩⟩⟩
          refine TS.reg [] ?_ ?_
          · apply prop_of ?_ hq
            kernel_rfl
          refine XS.then ?_
          refine TS.ret ?_
          obtain rfl : ((strOfRunes m1), (0 : Int)) = r := Option.some.inj h
          exact XS.fin [] ((True) ∧ ((True) ∧ (True))) (by kernel_rfl) ⟨trivial, ⟨trivial, trivial⟩⟩

/-! plugtree/plugref.narrowRune -/
def F28_l4 (n : Nat) (first : Int) (k28_4 : (Int × Int × (List Int)) → Option (List UInt8)) : (Int × Int × (List Int)) → Option (List UInt8)
  | (c_2, k, m0_2) => (bif (decide (k > (0 : Int))) then (bif inb k m0_2.length then (k28_4 ((IntKind.wrap .i64 (c_2.tdiv (64 : Int))), (IntKind.wrap .i64 (k - (1 : Int))), (m0_2.set k.toNat (IntKind.wrap .u8 ((IntKind.wrap .i64 ((128 : Int) + (c_2.tmod (64 : Int))))))))) else none) else (bif inb (0 : Int) m0_2.length then (some (strOf (m0_2.set 0 (IntKind.wrap .u8 ((IntKind.wrap .i64 (first + c_2))))))) else none))
def F28_j3 (n : Nat) (c : Int) : (Int × (List Int)) → Option (List UInt8)
  | (first, m0) => (loopF (F28_l4 n first) n (c, (IntKind.wrap .i64 (((m0.length : Nat) : Int) - (1 : Int))), m0))
def F28 (n : Nat) (c : Int) : Option (List UInt8) := (bif (decide (c < (128 : Int))) then (some (strOf [(IntKind.wrap .u8 (c))])) else (bif (decide (c < (2048 : Int))) then (F28_j3 n c ((192 : Int), (List.replicate 2 (0 : Int)))) else (bif (decide (c < (65536 : Int))) then (F28_j3 n c ((224 : Int), (List.replicate 3 (0 : Int)))) else (F28_j3 n c ((240 : Int), (List.replicate 4 (0 : Int)))))))
theorem F28_ok (n : Nat) (c : Int) (r : List UInt8) (h : F28 n c = some r) : PureC Try.prog 28 [(.int .i64 c)] (.str r) [] := by
  refine PureC.mkS Try.func28 rfl rfl ?_
  intro w0 fz0 hfz
  replace h : (bif (decide (c < (128 : Int))) then (some (strOf [(IntKind.wrap .u8 (c))])) else (bif (decide (c < (2048 : Int))) then (F28_j3 n c ((192 : Int), (List.replicate 2 (0 : Int)))) else (bif (decide (c < (65536 : Int))) then (F28_j3 n c ((224 : Int), (List.replicate 3 (0 : Int)))) else (F28_j3 n c ((240 : Int), (List.replicate 4 (0 : Int))))))) = some r := h
  refine TS.seq ?_
  have hq : (True) ∧ (True) := ⟨trivial, trivial⟩
  refine TS.reg [] ?_ ?_
  · apply prop_of ?_ hq
    kernel_rfl
  refine XS.then ?_
  refine TS.seq ?_
  have hq : (True) ∧ (True) := ⟨trivial, trivial⟩
  refine TS.reg [] ?_ ?_
  · apply prop_of ?_ hq
    kernel_rfl
  refine XS.then ?_
  refine TS.seq ?_
  have hq : (True) ∧ (True) := ⟨trivial, trivial⟩
  refine TS.reg [] ?_ ?_
  · apply prop_of ?_ hq
    kernel_rfl
  refine XS.then ?_
  refine TS.seq ?_
  refine TS.cut (D := Int × (List Int)) (fun d => match d with | (first, m0) => (mkTs 46 [(0, (.int .i64 c)), (3, (.row 0)), (4, (.int .i64 first))], [(.row 5 (.int .u8) m0)])) (fun d => F28_j3 n c d = some r) ?_ ?_
  · rintro ⟨first, m0⟩ h
    replace h : (loopF (F28_l4 n first) n (c, (IntKind.wrap .i64 (((m0.length : Nat) : Int) - (1 : Int))), m0)) = some r := h
    refine XS.then ?_
    refine TS.seq ?_
    refine TS.seq ?_
    have hq : (True) ∧ ((True) ∧ ((True) ∧ ((True) ∧ (True)))) := ⟨trivial, ⟨trivial, ⟨trivial, ⟨trivial, trivial⟩⟩⟩⟩
    refine TS.reg [] ?_ ?_
    · apply prop_of ?_ hq
      kernel_rfl
    refine XS.then ?_
    refine TS.block ?_
    refine TS.reLoop [0] (mkMask 46 [0, 3, 4, 5]) (D := Int × Int × (List Int)) (fun d => match d with | (c_2, k, m0_2) => (mkTs 46 [(0, (.int .i64 c_2)), (3, (.row 0)), (4, (.int .i64 first)), (5, (.int .i64 k))], [(.row 5 (.int .u8) m0_2)])) (fun n' d => loopF (F28_l4 n first) n' d = some r) n (c, (IntKind.wrap .i64 (((m0.length : Nat) : Int) - (1 : Int))), m0) h ?_ (fun d => loopF_zero _ d r) ?_
    · kernel_rfl
    · rintro n4 ⟨c_2, k, m0_2⟩ h
      replace h : (bif (decide (k > (0 : Int))) then (bif inb k m0_2.length then ((loopF (F28_l4 n first) n4) ((IntKind.wrap .i64 (c_2.tdiv (64 : Int))), (IntKind.wrap .i64 (k - (1 : Int))), (m0_2.set k.toNat (IntKind.wrap .u8 ((IntKind.wrap .i64 ((128 : Int) + (c_2.tmod (64 : Int))))))))) else none) else (bif inb (0 : Int) m0_2.length then (some (strOf (m0_2.set 0 (IntKind.wrap .u8 ((IntKind.wrap .i64 (first + c_2))))))) else none)) = some r := h
      refine TS.seq ?_
      refine TS.seq ?_
      have hq : (True) ∧ ((True) ∧ (True)) := ⟨trivial, ⟨trivial, trivial⟩⟩
      refine TS.reg [] ?_ ?_
      · apply prop_of ?_ hq
        kernel_rfl
      refine XS.then ?_
      rcases bif_some h with ⟨c1, h⟩ | ⟨c2, h⟩
      · refine TS.cond (decide (k > (0 : Int))) ?_ (fun hcz => ?_) (fun hcz => by rw [c1] at hcz; cases hcz)
        · kernel_rfl
        refine TS.skip ?_
        refine XS.then ?_
        refine TS.seq ?_
        refine TS.block ?_
        refine TS.seq ?_
        obtain ⟨t3, h⟩ := test_some h
        have hq : (True) ∧ ((True) ∧ ((True) ∧ (((64 : Int) ≠ 0) ∧ ((True) ∧ ((True) ∧ ((inR k m0_2.length) ∧ (((k.toNat < m0_2.length ∧ (True)) ∧ m0_2.length = m0_2.length) ∧ (True)))))))) := ⟨trivial, ⟨trivial, ⟨trivial, ⟨by decide, ⟨trivial, ⟨trivial, ⟨inb_ok t3, ⟨⟨⟨inR_lt (inb_ok t3), trivial⟩, rfl⟩, trivial⟩⟩⟩⟩⟩⟩⟩⟩
        refine TS.reg [] ?_ ?_
        · apply prop_of ?_ hq
          kernel_rfl
        refine XS.then ?_
        have hq : (True) ∧ (((64 : Int) ≠ 0) ∧ ((True) ∧ (True))) := ⟨trivial, ⟨by decide, ⟨trivial, trivial⟩⟩⟩
        refine TS.reg [] ?_ ?_
        · apply prop_of ?_ hq
          kernel_rfl
        refine XS.blockEnd ?_
        refine XS.then ?_
        have hq : (True) ∧ ((True) ∧ ((True) ∧ (True))) := ⟨trivial, ⟨trivial, ⟨trivial, trivial⟩⟩⟩
        refine TS.reg [] ?_ ?_
        · apply prop_of ?_ hq
          kernel_rfl
        refine XS.reAny [0] (mkMask 46 [0, 3, 4, 5]) ((IntKind.wrap .i64 (c_2.tdiv (64 : Int))), (IntKind.wrap .i64 (k - (1 : Int))), (m0_2.set k.toNat (IntKind.wrap .u8 ((IntKind.wrap .i64 ((128 : Int) + (c_2.tmod (64 : Int)))))))) h ?_
        kernel_rfl
      · refine TS.cond (decide (k > (0 : Int))) ?_ (fun hcz => by rw [c2] at hcz; cases hcz) (fun hcz => ?_)
        · kernel_rfl
        refine TS.exit ?_
        refine XS.passE ?_
        refine XS.passE ?_
        refine XS.out ?_
        refine XS.then ?_
        refine TS.seq ?_
        obtain ⟨t4, h⟩ := test_some h
        have hq : (True) ∧ ((True) ∧ ((True) ∧ ((True) ∧ ((True) ∧ ((inR (0 : Int) m0_2.length) ∧ (((0 < m0_2.length ∧ (True)) ∧ m0_2.length = m0_2.length) ∧ (True))))))) := ⟨trivial, ⟨trivial, ⟨trivial, ⟨trivial, ⟨trivial, ⟨inb_ok t4, ⟨⟨⟨inR_lt (inb_ok t4), trivial⟩, rfl⟩, trivial⟩⟩⟩⟩⟩⟩⟩
        refine TS.reg [] ?_ ?_
        · apply prop_of ?_ hq
          kernel_rfl
        refine XS.then ?_
        refine TS.seq ?_
        have hq : (True) ∧ ((True) ∧ ((True) ∧ (True))) := ⟨trivial, ⟨trivial, ⟨trivial, trivial⟩⟩⟩
        refine TS.reg [] ?_ ?_
        · apply prop_of ?_ hq
          kernel_rfl
        refine XS.then ?_
        refine TS.ret ?_
        obtain rfl : (strOf (m0_2.set 0 (IntKind.wrap .u8 ((IntKind.wrap .i64 (first + c_2)))))) = r := Option.some.inj h
        exact XS.fin [] ((True) ∧ (True)) (by kernel_rfl) ⟨trivial, trivial⟩
  · refine TS.block ?_
    refine TS.seq ?_
    have hq : (True) ∧ ((True) ∧ ((True) ∧ (True))) := ⟨trivial, ⟨trivial, ⟨trivial, trivial⟩⟩⟩
    refine TS.reg [] ?_ ?_
    · apply prop_of ?_ hq
      kernel_rfl
    refine XS.then ?_
    rcases bif_some h with ⟨c5, h⟩ | ⟨c6, h⟩
    · refine TS.cond (decide (c < (128 : Int))) ?_ (fun hcz => ?_) (fun hcz => by rw [c5] at hcz; cases hcz)
      · kernel_rfl
      refine TS.seq ?_
      have hq : (True) ∧ ((True) ∧ (((0 < 1 ∧ True) ∧ (True)) ∧ ((True) ∧ ((True) ∧ (True))))) := ⟨trivial, ⟨trivial, ⟨⟨⟨by decide, trivial⟩, trivial⟩, ⟨trivial, ⟨trivial, trivial⟩⟩⟩⟩⟩
      refine TS.reg [] ?_ ?_
      · apply prop_of ?_ hq
        kernel_rfl
      refine XS.then ?_
      refine TS.ret ?_
      refine XS.blockRet ?_
      refine XS.passR ?_
      refine XS.passR ?_
      obtain rfl : (strOf [(IntKind.wrap .u8 (c))]) = r := Option.some.inj h
      exact XS.fin [] ((True) ∧ (True)) (by kernel_rfl) ⟨trivial, trivial⟩
    · refine TS.cond (decide (c < (128 : Int))) ?_ (fun hcz => by rw [c6] at hcz; cases hcz) (fun hcz => ?_)
      · kernel_rfl
      refine TS.seq ?_
      have hq : (True) ∧ ((True) ∧ ((True) ∧ (True))) := ⟨trivial, ⟨trivial, ⟨trivial, trivial⟩⟩⟩
      refine TS.reg [] ?_ ?_
      · apply prop_of ?_ hq
        kernel_rfl
      refine XS.then ?_
      rcases bif_some h with ⟨c7, h⟩ | ⟨c8, h⟩
      · refine TS.cond (decide (c < (2048 : Int))) ?_ (fun hcz => ?_) (fun hcz => by rw [c7] at hcz; cases hcz)
        · kernel_rfl
        have hq : ((2 : Int) = (2 : Int) ∧ (0 ≤ (2 : Int) ∧ (2 : Int) ≤ 17179869184)) ∧ ((True) ∧ ((True) ∧ (True))) := ⟨⟨rfl, by decide, by decide⟩, ⟨trivial, ⟨trivial, trivial⟩⟩⟩
        refine TS.reg [] ?_ ?_
        · apply prop_of ?_ hq
          kernel_rfl
        refine XS.blockEnd ?_
        refine XS.reAny [0] (mkMask 46 [0, 3, 4]) ((192 : Int), (List.replicate 2 (0 : Int))) h ?_
        kernel_rfl
      · refine TS.cond (decide (c < (2048 : Int))) ?_ (fun hcz => by rw [c8] at hcz; cases hcz) (fun hcz => ?_)
        · kernel_rfl
        refine TS.seq ?_
        have hq : (True) ∧ ((True) ∧ ((True) ∧ (True))) := ⟨trivial, ⟨trivial, ⟨trivial, trivial⟩⟩⟩
        refine TS.reg [] ?_ ?_
        · apply prop_of ?_ hq
          kernel_rfl
        refine XS.then ?_
        rcases bif_some h with ⟨c9, h⟩ | ⟨c10, h⟩
        · refine TS.cond (decide (c < (65536 : Int))) ?_ (fun hcz => ?_) (fun hcz => by rw [c9] at hcz; cases hcz)
          · kernel_rfl
          have hq : ((3 : Int) = (3 : Int) ∧ (0 ≤ (3 : Int) ∧ (3 : Int) ≤ 17179869184)) ∧ ((True) ∧ ((True) ∧ (True))) := ⟨⟨rfl, by decide, by decide⟩, ⟨trivial, ⟨trivial, trivial⟩⟩⟩
          refine TS.reg [] ?_ ?_
          · apply prop_of ?_ hq
            kernel_rfl
          refine XS.blockEnd ?_
          refine XS.reAny [0] (mkMask 46 [0, 3, 4]) ((224 : Int), (List.replicate 3 (0 : Int))) h ?_
          kernel_rfl
        · refine TS.cond (decide (c < (65536 : Int))) ?_ (fun hcz => by rw [c10] at hcz; cases hcz) (fun hcz => ?_)
          · kernel_rfl
          have hq : ((4 : Int) = (4 : Int) ∧ (0 ≤ (4 : Int) ∧ (4 : Int) ≤ 17179869184)) ∧ ((True) ∧ ((True) ∧ (True))) := ⟨⟨rfl, by decide, by decide⟩, ⟨trivial, ⟨trivial, trivial⟩⟩⟩
          refine TS.reg [] ?_ ?_
          · apply prop_of ?_ hq
            kernel_rfl
          refine XS.blockEnd ?_
          refine XS.reAny [0] (mkMask 46 [0, 3, 4]) ((240 : Int), (List.replicate 4 (0 : Int))) h ?_
          kernel_rfl

/-! plugtree/plugref.Narrow -/
def F11_j32 (n : Nat) (k11_30 : ((List Int) × (List UInt8)) → Option ((List UInt8) × Int)) (vout : List UInt8) : ((List Int) × Int) → Option ((List UInt8) × Int)
  | (units_2, c) => ((F28 n c).bind fun y_3 => (bif (decide (vout.length + y_3.length ≤ 9223372036854775807)) then (k11_30 (units_2, (vout ++ y_3))) else none))
def F11_j31 (n : Nat) (k11_30 : ((List Int) × (List UInt8)) → Option ((List UInt8) × Int)) (units : List Int) (vout : List UInt8) : Bool → Option ((List UInt8) × Int)
  | pair => (bif subB units.length (some (1 : Int)) none then (bif pair then (bif inb (0 : Int) ((units.drop 1).length) then (bif subB ((units.drop 1).length) (some (1 : Int)) none then (F11_j32 n k11_30 vout (((units.drop 1).drop 1), (IntKind.wrap .i64 ((IntKind.wrap .i64 ((65536 : Int) + (IntKind.wrap .i64 (((units.getD 0 (0 : Int)).tmod (1024 : Int)) * (1024 : Int))))) + (((units.drop 1).getD 0 (0 : Int)).tmod (1024 : Int)))))) else none) else none) else (bif ((IntKind.wrap .i64 ((units.getD 0 (0 : Int)).tdiv (2048 : Int))) == (27 : Int)) then (F11_j32 n k11_30 vout ((units.drop 1), (65533 : Int))) else (F11_j32 n k11_30 vout ((units.drop 1), (units.getD 0 (0 : Int)))))) else none)
def F11_l30 (n : Nat) (k11_30 : ((List Int) × (List UInt8)) → Option ((List UInt8) × Int)) : ((List Int) × (List UInt8)) → Option ((List UInt8) × Int)
  | (units, vout) => (bif (decide (((units.length : Nat) : Int) > (0 : Int))) then (bif inb (0 : Int) units.length then (bif (decide (((units.length : Nat) : Int) > (1 : Int))) then (bif ((IntKind.wrap .i64 ((units.getD 0 (0 : Int)).tdiv (1024 : Int))) == (54 : Int)) then (bif inb (1 : Int) units.length then (F11_j31 n k11_30 units vout ((IntKind.wrap .i64 ((units.getD 1 (0 : Int)).tdiv (1024 : Int))) == (55 : Int))) else none) else (F11_j31 n k11_30 units vout false)) else (F11_j31 n k11_30 units vout false)) else none) else (some (vout, (0 : Int))))
def F11_l25 (n : Nat) (k11_25 : ((List UInt8) × (List Int)) → Option ((List UInt8) × Int)) : ((List UInt8) × (List Int)) → Option ((List UInt8) × Int)
  | (t_2, m0) => (bif (!(t_2 == ([] : List UInt8))) then (bif inb (0 : Int) t_2.length then (bif inb (1 : Int) t_2.length then (bif (decide (m0.length + [(IntKind.wrap .i64 ((IntKind.wrap .i64 ((((t_2.getD 0 0).toNat : Nat) : Int))) + (IntKind.wrap .i64 ((256 : Int) * (IntKind.wrap .i64 ((((t_2.getD 1 0).toNat : Nat) : Int)))))))].length ≤ 17592186044416)) then (bif subB t_2.length (some (2 : Int)) none then (k11_25 ((t_2.drop 2), (m0 ++ [(IntKind.wrap .i64 ((IntKind.wrap .i64 ((((t_2.getD 0 0).toNat : Nat) : Int))) + (IntKind.wrap .i64 ((256 : Int) * (IntKind.wrap .i64 ((((t_2.getD 1 0).toNat : Nat) : Int)))))))]))) else none) else none) else none) else none) else (loopF (F11_l30 n) n (m0, ([] : List UInt8))))
def F11 (n : Nat) (t : List UInt8) : Option ((List UInt8) × Int) := (bif ((((t.length : Nat) : Int).tmod (2 : Int)) == (1 : Int)) then (some (([] : List UInt8), (4 : Int))) else (bif (decide (((t.length : Nat) : Int) > (252 : Int))) then (some (([] : List UInt8), (2 : Int))) else (loopF (F11_l25 n) n (t, ([] : List Int)))))
theorem F11_ok (n : Nat) (t : List UInt8) (r : (List UInt8) × Int) (h : F11 n t = some r) : PureC Try.prog 11 [(.str t)] (.tup (.cons (.str r.1) (.cons (.int .i64 r.2) .nil))) [] := by
  refine PureC.mkS Try.func11 rfl rfl ?_
  intro w0 fz0 hfz
  replace h : (bif ((((t.length : Nat) : Int).tmod (2 : Int)) == (1 : Int)) then (some (([] : List UInt8), (4 : Int))) else (bif (decide (((t.length : Nat) : Int) > (252 : Int))) then (some (([] : List UInt8), (2 : Int))) else (loopF (F11_l25 n) n (t, ([] : List Int))))) = some r := h
  refine TS.seq ?_
  have hq : (True) ∧ ((True) ∧ (True)) := ⟨trivial, ⟨trivial, trivial⟩⟩
  refine TS.reg [] ?_ ?_
  · apply prop_of ?_ hq
    kernel_rfl
  refine XS.then ?_
  refine TS.seq ?_
  refine TS.seq ?_
  have hq : (True) ∧ ((True) ∧ (((2 : Int) ≠ 0) ∧ ((True) ∧ (True)))) := ⟨trivial, ⟨trivial, ⟨by decide, ⟨trivial, trivial⟩⟩⟩⟩
  refine TS.reg [] ?_ ?_
  · apply prop_of ?_ hq
    kernel_rfl
  refine XS.then ?_
  rcases bif_some h with ⟨c1, h⟩ | ⟨c2, h⟩
  · refine TS.cond ((((t.length : Nat) : Int).tmod (2 : Int)) == (1 : Int)) ?_ (fun hcz => ?_) (fun hcz => by rw [c1] at hcz; cases hcz)
    · kernel_rfl
    refine TS.seq ?_
    have hq : (True) ∧ ((True) ∧ (True)) := ⟨trivial, ⟨trivial, trivial⟩⟩
    refine TS.reg [] ?_ ?_
    · apply prop_of ?_ hq
      kernel_rfl
    refine XS.then ?_
    refine TS.ret ?_
    refine XS.passR ?_
    obtain rfl : (([] : List UInt8), (4 : Int)) = r := Option.some.inj h
    exact XS.fin [] ((True) ∧ ((True) ∧ (True))) (by kernel_rfl) ⟨trivial, ⟨trivial, trivial⟩⟩
  · refine TS.cond ((((t.length : Nat) : Int).tmod (2 : Int)) == (1 : Int)) ?_ (fun hcz => by rw [c2] at hcz; cases hcz) (fun hcz => ?_)
    · kernel_rfl
    refine TS.skip ?_
    refine XS.then ?_
    refine TS.seq ?_
    refine TS.seq ?_
    have hq : (True) ∧ ((True) ∧ ((True) ∧ (True))) := ⟨trivial, ⟨trivial, ⟨trivial, trivial⟩⟩⟩
    refine TS.reg [] ?_ ?_
    · apply prop_of ?_ hq
      kernel_rfl
    refine XS.then ?_
    rcases bif_some h with ⟨c3, h⟩ | ⟨c4, h⟩
    · refine TS.cond (decide (((t.length : Nat) : Int) > (252 : Int))) ?_ (fun hcz => ?_) (fun hcz => by rw [c3] at hcz; cases hcz)
      · kernel_rfl
      refine TS.seq ?_
      have hq : (True) ∧ ((True) ∧ (True)) := ⟨trivial, ⟨trivial, trivial⟩⟩
      refine TS.reg [] ?_ ?_
      · apply prop_of ?_ hq
        kernel_rfl
      refine XS.then ?_
      refine TS.ret ?_
      refine XS.passR ?_
      obtain rfl : (([] : List UInt8), (2 : Int)) = r := Option.some.inj h
      exact XS.fin [] ((True) ∧ ((True) ∧ (True))) (by kernel_rfl) ⟨trivial, ⟨trivial, trivial⟩⟩
    · refine TS.cond (decide (((t.length : Nat) : Int) > (252 : Int))) ?_ (fun hcz => by rw [c4] at hcz; cases hcz) (fun hcz => ?_)
      · kernel_rfl
      refine TS.skip ?_
      refine XS.then ?_
      refine TS.seq ?_
      have hq : (True) ∧ (True) := ⟨trivial, trivial⟩
      refine TS.reg [] ?_ ?_
      · apply prop_of ?_ hq
        kernel_rfl
      refine XS.then ?_
      refine TS.seq ?_
      refine TS.block ?_
      refine TS.wk (.row false 4 [] 3 (.int .i64)) ?_
      refine TS.reLoop [0] (mkMask 73 [0, 4]) (D := (List UInt8) × (List Int)) (fun d => match d with | (t_2, m0) => (mkTs 73 [(0, (.str t_2)), (4, (.row 0))], [(.row 3 (.int .i64) m0)])) (fun n' d => loopF (F11_l25 n) n' d = some r) n (t, ([] : List Int)) h ?_ (fun d => loopF_zero _ d r) ?_
      · kernel_rfl
      · rintro n25 ⟨t_2, m0⟩ h
        replace h : (bif (!(t_2 == ([] : List UInt8))) then (bif inb (0 : Int) t_2.length then (bif inb (1 : Int) t_2.length then (bif (decide (m0.length + [(IntKind.wrap .i64 ((IntKind.wrap .i64 ((((t_2.getD 0 0).toNat : Nat) : Int))) + (IntKind.wrap .i64 ((256 : Int) * (IntKind.wrap .i64 ((((t_2.getD 1 0).toNat : Nat) : Int)))))))].length ≤ 17592186044416)) then (bif subB t_2.length (some (2 : Int)) none then ((loopF (F11_l25 n) n25) ((t_2.drop 2), (m0 ++ [(IntKind.wrap .i64 ((IntKind.wrap .i64 ((((t_2.getD 0 0).toNat : Nat) : Int))) + (IntKind.wrap .i64 ((256 : Int) * (IntKind.wrap .i64 ((((t_2.getD 1 0).toNat : Nat) : Int)))))))]))) else none) else none) else none) else none) else (loopF (F11_l30 n) n (m0, ([] : List UInt8)))) = some r := h
        refine TS.seq ?_
        refine TS.seq ?_
        have hq : (True) ∧ ((True) ∧ (True)) := ⟨trivial, ⟨trivial, trivial⟩⟩
        refine TS.reg [] ?_ ?_
        · apply prop_of ?_ hq
          kernel_rfl
        refine XS.then ?_
        rcases bif_some h with ⟨c5, h⟩ | ⟨c6, h⟩
        · refine TS.cond (!(t_2 == ([] : List UInt8))) ?_ (fun hcz => ?_) (fun hcz => by rw [c5] at hcz; cases hcz)
          · kernel_rfl
          refine TS.skip ?_
          refine XS.then ?_
          refine TS.seq ?_
          refine TS.block ?_
          obtain ⟨t7, h⟩ := test_some h
          obtain ⟨t8, h⟩ := test_some h
          obtain ⟨t9, h⟩ := test_some h
          have hq : ((True) ∧ ((True) ∧ ((inR (0 : Int) t_2.length) ∧ ((True) ∧ ((True) ∧ ((inR (1 : Int) t_2.length) ∧ ((True) ∧ ((True) ∧ ((True) ∧ (((0 < 1 ∧ True) ∧ (True)) ∧ (True))))))))))) ∧ ((m0.length + [(IntKind.wrap .i64 ((IntKind.wrap .i64 ((((t_2.getD 0 0).toNat : Nat) : Int))) + (IntKind.wrap .i64 ((256 : Int) * (IntKind.wrap .i64 ((((t_2.getD 1 0).toNat : Nat) : Int)))))))].length ≤ 17592186044416) ∧ ((True) ∧ (True))) := ⟨⟨trivial, ⟨trivial, ⟨inb_ok t7, ⟨trivial, ⟨trivial, ⟨inb_ok t8, ⟨trivial, ⟨trivial, ⟨trivial, ⟨⟨⟨by decide, trivial⟩, trivial⟩, trivial⟩⟩⟩⟩⟩⟩⟩⟩⟩⟩, ⟨of_decide_eq_true t9, ⟨trivial, trivial⟩⟩⟩
          refine TS.draw 10 [] [] (by kernel_rfl) ?_ ?_
          · apply prop_of ?_ hq
            kernel_rfl
          refine XS.blockEnd ?_
          refine XS.then ?_
          obtain ⟨t10, h⟩ := test_some h
          have hq : (True) ∧ ((subC t_2.length (some (2 : Int)) none) ∧ ((True) ∧ (True))) := ⟨trivial, ⟨subB_ok t10, ⟨trivial, trivial⟩⟩⟩
          refine TS.reg [] ?_ ?_
          · apply prop_of ?_ hq
            kernel_rfl
          refine XS.reAny [2] (mkMask 73 [0, 4]) ((t_2.drop 2), (m0 ++ [(IntKind.wrap .i64 ((IntKind.wrap .i64 ((((t_2.getD 0 0).toNat : Nat) : Int))) + (IntKind.wrap .i64 ((256 : Int) * (IntKind.wrap .i64 ((((t_2.getD 1 0).toNat : Nat) : Int)))))))])) h ?_
          kernel_rfl
        · refine TS.cond (!(t_2 == ([] : List UInt8))) ?_ (fun hcz => by rw [c6] at hcz; cases hcz) (fun hcz => ?_)
          · kernel_rfl
          refine TS.exit ?_
          refine XS.passE ?_
          refine XS.passE ?_
          refine XS.out ?_
          refine XS.then ?_
          refine TS.seq ?_
          have hq : (True) ∧ (True) := ⟨trivial, trivial⟩
          refine TS.reg [] ?_ ?_
          · apply prop_of ?_ hq
            kernel_rfl
          refine XS.then ?_
          refine TS.seq ?_
          refine TS.block ?_
          refine TS.wk (.frz 0) ?_
          refine TS.reLoop [] (mkMask 73 [4, 5]) (D := (List Int) × (List UInt8)) (fun d => match d with | (units, vout) => (mkTs 73 [(4, (.sl (.int .i64) units)), (5, (.str vout))], [])) (fun n' d => loopF (F11_l30 n) n' d = some r) n (m0, ([] : List UInt8)) h ?_ (fun d => loopF_zero _ d r) ?_
          · kernel_rfl
          · rintro n30 ⟨units, vout⟩ h
            replace h : (bif (decide (((units.length : Nat) : Int) > (0 : Int))) then (bif inb (0 : Int) units.length then (bif (decide (((units.length : Nat) : Int) > (1 : Int))) then (bif ((IntKind.wrap .i64 ((units.getD 0 (0 : Int)).tdiv (1024 : Int))) == (54 : Int)) then (bif inb (1 : Int) units.length then (F11_j31 n (loopF (F11_l30 n) n30) units vout ((IntKind.wrap .i64 ((units.getD 1 (0 : Int)).tdiv (1024 : Int))) == (55 : Int))) else none) else (F11_j31 n (loopF (F11_l30 n) n30) units vout false)) else (F11_j31 n (loopF (F11_l30 n) n30) units vout false)) else none) else (some (vout, (0 : Int)))) = some r := h
            refine TS.seq ?_
            refine TS.seq ?_
            have hq : (True) ∧ ((True) ∧ ((True) ∧ (True))) := ⟨trivial, ⟨trivial, ⟨trivial, trivial⟩⟩⟩
            refine TS.reg [] ?_ ?_
            · apply prop_of ?_ hq
              kernel_rfl
            refine XS.then ?_
            rcases bif_some h with ⟨c11, h⟩ | ⟨c12, h⟩
            · refine TS.cond (decide (((units.length : Nat) : Int) > (0 : Int))) ?_ (fun hcz => ?_) (fun hcz => by rw [c11] at hcz; cases hcz)
              · kernel_rfl
              refine TS.skip ?_
              refine XS.then ?_
              refine TS.block ?_
              refine TS.seq ?_
              obtain ⟨t13, h⟩ := test_some h
              have hq : (True) ∧ ((inR (0 : Int) units.length) ∧ ((True) ∧ ((True) ∧ (True)))) := ⟨trivial, ⟨inb_ok t13, ⟨trivial, ⟨trivial, trivial⟩⟩⟩⟩
              refine TS.reg [] ?_ ?_
              · apply prop_of ?_ hq
                kernel_rfl
              refine XS.then ?_
              refine TS.seq ?_
              refine TS.cut (D := Bool) (fun d => match d with | pair => (mkTs 73 [(4, (.sl (.int .i64) units)), (5, (.str vout)), (6, (.int .i64 (units.getD 0 (0 : Int)))), (7, (.bool pair))], [])) (fun d => F11_j31 n (loopF (F11_l30 n) n30) units vout d = some r) ?_ ?_
              · rintro pair h
                replace h : (bif subB units.length (some (1 : Int)) none then (bif pair then (bif inb (0 : Int) ((units.drop 1).length) then (bif subB ((units.drop 1).length) (some (1 : Int)) none then (F11_j32 n (loopF (F11_l30 n) n30) vout (((units.drop 1).drop 1), (IntKind.wrap .i64 ((IntKind.wrap .i64 ((65536 : Int) + (IntKind.wrap .i64 (((units.getD 0 (0 : Int)).tmod (1024 : Int)) * (1024 : Int))))) + (((units.drop 1).getD 0 (0 : Int)).tmod (1024 : Int)))))) else none) else none) else (bif ((IntKind.wrap .i64 ((units.getD 0 (0 : Int)).tdiv (2048 : Int))) == (27 : Int)) then (F11_j32 n (loopF (F11_l30 n) n30) vout ((units.drop 1), (65533 : Int))) else (F11_j32 n (loopF (F11_l30 n) n30) vout ((units.drop 1), (units.getD 0 (0 : Int)))))) else none) = some r := h
                refine XS.then ?_
                refine TS.seq ?_
                obtain ⟨t14, h⟩ := test_some h
                have hq : (True) ∧ ((subC units.length (some (1 : Int)) none) ∧ ((True) ∧ (True))) := ⟨trivial, ⟨subB_ok t14, ⟨trivial, trivial⟩⟩⟩
                refine TS.reg [] ?_ ?_
                · apply prop_of ?_ hq
                  kernel_rfl
                refine XS.then ?_
                refine TS.seq ?_
                refine TS.seq ?_
                have hq : (True) ∧ (True) := ⟨trivial, trivial⟩
                refine TS.reg [] ?_ ?_
                · apply prop_of ?_ hq
                  kernel_rfl
                refine XS.then ?_
                refine TS.cut (D := (List Int) × Int) (fun d => match d with | (units_2, c) => (mkTs 73 [(4, (.sl (.int .i64) units_2)), (5, (.str vout)), (6, (.int .i64 c))], [])) (fun d => F11_j32 n (loopF (F11_l30 n) n30) vout d = some r) ?_ ?_
                · rintro ⟨units_2, c⟩ h
                  replace h : ((F28 n c).bind fun y_3 => (bif (decide (vout.length + y_3.length ≤ 9223372036854775807)) then ((loopF (F11_l30 n) n30) (units_2, (vout ++ y_3))) else none)) = some r := h
                  refine XS.then ?_
                  obtain ⟨y_3, hx15, h⟩ := bind_some' h
                  obtain ⟨t16, h⟩ := test_some h
                  have hq : (True) ∧ ((True) ∧ ((PureC Try.prog 28 [(.int .i64 c)] (.str y_3) []) ∧ ((vout.length + y_3.length ≤ 9223372036854775807) ∧ ((True) ∧ (True))))) := ⟨trivial, ⟨trivial, ⟨F28_ok n c y_3 hx15, ⟨of_decide_eq_true t16, ⟨trivial, trivial⟩⟩⟩⟩⟩
                  refine TS.reg [.none, .none, (.call (.str y_3) [])] ?_ ?_
                  · apply prop_of ?_ hq
                    kernel_rfl
                  refine XS.blockEnd ?_
                  refine XS.reAny [] (mkMask 73 [4, 5]) (units_2, (vout ++ y_3)) h ?_
                  kernel_rfl
                · rcases bif_some h with ⟨c17, h⟩ | ⟨c18, h⟩
                  · refine TS.cond pair ?_ (fun hcz => ?_) (fun hcz => by rw [c17] at hcz; cases hcz)
                    · kernel_rfl
                    refine TS.seq ?_
                    obtain ⟨t19, h⟩ := test_some h
                    have hq : (True) ∧ (((1024 : Int) ≠ 0) ∧ ((True) ∧ ((True) ∧ ((True) ∧ ((inR (0 : Int) ((units.drop 1).length)) ∧ ((True) ∧ (((1024 : Int) ≠ 0) ∧ ((True) ∧ ((True) ∧ (True)))))))))) := ⟨trivial, ⟨by decide, ⟨trivial, ⟨trivial, ⟨trivial, ⟨inb_ok t19, ⟨trivial, ⟨by decide, ⟨trivial, ⟨trivial, trivial⟩⟩⟩⟩⟩⟩⟩⟩⟩⟩
                    refine TS.reg [] ?_ ?_
                    · apply prop_of ?_ hq
                      kernel_rfl
                    refine XS.then ?_
                    obtain ⟨t20, h⟩ := test_some h
                    have hq : (True) ∧ ((subC (units.drop 1).length (some (1 : Int)) none) ∧ ((True) ∧ (True))) := ⟨trivial, ⟨subB_ok t20, ⟨trivial, trivial⟩⟩⟩
                    refine TS.reg [] ?_ ?_
                    · apply prop_of ?_ hq
                      kernel_rfl
                    refine XS.reAny [] (mkMask 73 [4, 5, 6]) (((units.drop 1).drop 1), (IntKind.wrap .i64 ((IntKind.wrap .i64 ((65536 : Int) + (IntKind.wrap .i64 (((units.getD 0 (0 : Int)).tmod (1024 : Int)) * (1024 : Int))))) + (((units.drop 1).getD 0 (0 : Int)).tmod (1024 : Int))))) h ?_
                    kernel_rfl
                  · refine TS.cond pair ?_ (fun hcz => by rw [c18] at hcz; cases hcz) (fun hcz => ?_)
                    · kernel_rfl
                    refine TS.seq ?_
                    have hq : (True) ∧ (((2048 : Int) ≠ 0) ∧ ((True) ∧ (True))) := ⟨trivial, ⟨by decide, ⟨trivial, trivial⟩⟩⟩
                    refine TS.reg [] ?_ ?_
                    · apply prop_of ?_ hq
                      kernel_rfl
                    refine XS.then ?_
                    rcases bif_some h with ⟨c21, h⟩ | ⟨c22, h⟩
                    · refine TS.cond ((IntKind.wrap .i64 ((units.getD 0 (0 : Int)).tdiv (2048 : Int))) == (27 : Int)) ?_ (fun hcz => ?_) (fun hcz => by rw [c21] at hcz; cases hcz)
                      · kernel_rfl
                      have hq : (True) ∧ (True) := ⟨trivial, trivial⟩
                      refine TS.reg [] ?_ ?_
                      · apply prop_of ?_ hq
                        kernel_rfl
                      refine XS.reAny [] (mkMask 73 [4, 5, 6]) ((units.drop 1), (65533 : Int)) h ?_
                      kernel_rfl
                    · refine TS.cond ((IntKind.wrap .i64 ((units.getD 0 (0 : Int)).tdiv (2048 : Int))) == (27 : Int)) ?_ (fun hcz => by rw [c22] at hcz; cases hcz) (fun hcz => ?_)
                      · kernel_rfl
                      refine TS.skip ?_
                      refine XS.reAny [] (mkMask 73 [4, 5, 6]) ((units.drop 1), (units.getD 0 (0 : Int))) h ?_
                      kernel_rfl
              · rcases bif_some h with ⟨c23, h⟩ | ⟨c24, h⟩
                · rcases bif_some h with ⟨c25, h⟩ | ⟨c26, h⟩
                  · obtain ⟨t27, h⟩ := test_some h
                    have hq : (True) ∧ ((True) ∧ ((True) ∧ (((True) ∧ (decide (((units.length : Nat) : Int) > (1 : Int))) = true) ∧ ((True) ∧ (((1024 : Int) ≠ 0) ∧ ((True) ∧ ((True) ∧ (((True) ∧ ((IntKind.wrap .i64 ((units.getD 0 (0 : Int)).tdiv (1024 : Int))) == (54 : Int)) = true) ∧ ((True) ∧ ((inR (1 : Int) units.length) ∧ ((True) ∧ (((1024 : Int) ≠ 0) ∧ ((True) ∧ ((True) ∧ ((True) ∧ (True)))))))))))))))) := ⟨trivial, ⟨trivial, ⟨trivial, ⟨⟨trivial, c23⟩, ⟨trivial, ⟨by decide, ⟨trivial, ⟨trivial, ⟨⟨trivial, c25⟩, ⟨trivial, ⟨inb_ok t27, ⟨trivial, ⟨by decide, ⟨trivial, ⟨trivial, ⟨trivial, trivial⟩⟩⟩⟩⟩⟩⟩⟩⟩⟩⟩⟩⟩⟩⟩⟩
                    refine TS.reg [.none, .none, .none, .dec true, .none, .none, .none, .none, .dec true] ?_ ?_
                    · apply prop_of ?_ hq
                      kernel_rfl
                    refine XS.reAny [] (mkMask 73 [4, 5, 6, 7]) ((IntKind.wrap .i64 ((units.getD 1 (0 : Int)).tdiv (1024 : Int))) == (55 : Int)) h ?_
                    kernel_rfl
                  · have hq : (True) ∧ ((True) ∧ ((True) ∧ (((True) ∧ (decide (((units.length : Nat) : Int) > (1 : Int))) = true) ∧ ((True) ∧ (((1024 : Int) ≠ 0) ∧ ((True) ∧ ((True) ∧ (((True) ∧ ((IntKind.wrap .i64 ((units.getD 0 (0 : Int)).tdiv (1024 : Int))) == (54 : Int)) = false) ∧ ((True) ∧ ((True) ∧ (True))))))))))) := ⟨trivial, ⟨trivial, ⟨trivial, ⟨⟨trivial, c23⟩, ⟨trivial, ⟨by decide, ⟨trivial, ⟨trivial, ⟨⟨trivial, c26⟩, ⟨trivial, ⟨trivial, trivial⟩⟩⟩⟩⟩⟩⟩⟩⟩⟩⟩
                    refine TS.reg [.none, .none, .none, .dec true, .none, .none, .none, .none, .dec false] ?_ ?_
                    · apply prop_of ?_ hq
                      kernel_rfl
                    refine XS.reAny [] (mkMask 73 [4, 5, 6, 7]) false h ?_
                    kernel_rfl
                · have hq : (True) ∧ ((True) ∧ ((True) ∧ (((True) ∧ (decide (((units.length : Nat) : Int) > (1 : Int))) = false) ∧ ((True) ∧ ((True) ∧ ((True) ∧ ((True) ∧ (True)))))))) := ⟨trivial, ⟨trivial, ⟨trivial, ⟨⟨trivial, c24⟩, ⟨trivial, ⟨trivial, ⟨trivial, ⟨trivial, trivial⟩⟩⟩⟩⟩⟩⟩⟩
                  refine TS.reg [.none, .none, .none, .dec false] ?_ ?_
                  · apply prop_of ?_ hq
                    kernel_rfl
                  refine XS.reAny [] (mkMask 73 [4, 5, 6, 7]) false h ?_
                  kernel_rfl
            · refine TS.cond (decide (((units.length : Nat) : Int) > (0 : Int))) ?_ (fun hcz => by rw [c12] at hcz; cases hcz) (fun hcz => ?_)
              · kernel_rfl
              refine TS.exit ?_
              refine XS.passE ?_
              refine XS.passE ?_
              refine XS.out ?_
              refine XS.then ?_
              refine TS.seq ?_
              have hq : (True) ∧ ((True) ∧ ((True) ∧ (True))) := ⟨trivial, ⟨trivial, ⟨trivial, trivial⟩⟩⟩
              refine TS.reg [] ?_ ?_
              · apply prop_of ?_ hq
                kernel_rfl
              refine XS.then ?_
              refine TS.ret ?_
              obtain rfl : (vout, (0 : Int)) = r := Option.some.inj h
              exact XS.fin [] ((True) ∧ ((True) ∧ (True))) (by kernel_rfl) ⟨trivial, ⟨trivial, trivial⟩⟩

/-! plugtree/pluglaw.UtfNarrow -/
def F4 (n : Nat) (t : List UInt8) : Option Bool := ((F10 n t).bind fun y_2 => ((F11 n t).bind fun y_3 => (bif (y_2.1 == y_3.1) then (some (y_2.2 == y_3.2)) else (some false))))
theorem F4_ok (n : Nat) (t : List UInt8) (r : Bool) (h : F4 n t = some r) : PureC Try.prog 4 [(.str t)] (.bool r) [] := by
  refine PureC.mkS Try.func4 rfl rfl ?_
  intro w0 fz0 hfz
  replace h : ((F10 n t).bind fun y_2 => ((F11 n t).bind fun y_3 => (bif (y_2.1 == y_3.1) then (some (y_2.2 == y_3.2)) else (some false)))) = some r := h
  refine TS.seq ?_
  have hq : (True) ∧ (True) := ⟨trivial, trivial⟩
  refine TS.reg [] ?_ ?_
  · apply prop_of ?_ hq
    kernel_rfl
  refine XS.then ?_
  refine TS.seq ?_
  obtain ⟨y_2, hx1, h⟩ := bind_some' h
  have hq : (True) ∧ ((PureC Try.prog 10 [(.str t)] (.tup (.cons (.str y_2.1) (.cons (.int .i64 y_2.2) .nil))) []) ∧ ((True) ∧ ((True) ∧ ((True) ∧ ((True) ∧ ((True) ∧ (True))))))) := ⟨trivial, ⟨F10_ok n t y_2 hx1, ⟨trivial, ⟨trivial, ⟨trivial, ⟨trivial, ⟨trivial, trivial⟩⟩⟩⟩⟩⟩⟩
  refine TS.reg [.none, (.call (.tup (.cons (.str y_2.1) (.cons (.int .i64 y_2.2) .nil))) [])] ?_ ?_
  · apply prop_of ?_ hq
    kernel_rfl
  refine XS.then ?_
  refine TS.seq ?_
  obtain ⟨y_3, hx2, h⟩ := bind_some' h
  have hq : (True) ∧ ((PureC Try.prog 11 [(.str t)] (.tup (.cons (.str y_3.1) (.cons (.int .i64 y_3.2) .nil))) []) ∧ ((True) ∧ ((True) ∧ ((True) ∧ ((True) ∧ ((True) ∧ (True))))))) := ⟨trivial, ⟨F11_ok n t y_3 hx2, ⟨trivial, ⟨trivial, ⟨trivial, ⟨trivial, ⟨trivial, trivial⟩⟩⟩⟩⟩⟩⟩
  refine TS.reg [.none, (.call (.tup (.cons (.str y_3.1) (.cons (.int .i64 y_3.2) .nil))) [])] ?_ ?_
  · apply prop_of ?_ hq
    kernel_rfl
  refine XS.then ?_
  refine TS.seq ?_
  rcases bif_some h with ⟨c3, h⟩ | ⟨c4, h⟩
  · have hq : (True) ∧ ((True) ∧ ((True) ∧ (((True) ∧ (y_2.1 == y_3.1) = true) ∧ ((True) ∧ ((True) ∧ ((True) ∧ ((True) ∧ ((True) ∧ (True))))))))) := ⟨trivial, ⟨trivial, ⟨trivial, ⟨⟨trivial, c3⟩, ⟨trivial, ⟨trivial, ⟨trivial, ⟨trivial, ⟨trivial, trivial⟩⟩⟩⟩⟩⟩⟩⟩⟩
    refine TS.reg [.none, .none, .none, .dec true] ?_ ?_
    · apply prop_of ?_ hq
      kernel_rfl
    refine XS.then ?_
    refine TS.ret ?_
    obtain rfl : (y_2.2 == y_3.2) = r := Option.some.inj h
    exact XS.fin [] ((True) ∧ (True)) (by kernel_rfl) ⟨trivial, trivial⟩
  · have hq : (True) ∧ ((True) ∧ ((True) ∧ (((True) ∧ (y_2.1 == y_3.1) = false) ∧ ((True) ∧ ((True) ∧ (True)))))) := ⟨trivial, ⟨trivial, ⟨trivial, ⟨⟨trivial, c4⟩, ⟨trivial, ⟨trivial, trivial⟩⟩⟩⟩⟩⟩
    refine TS.reg [.none, .none, .none, .dec false] ?_ ?_
    · apply prop_of ?_ hq
      kernel_rfl
    refine XS.then ?_
    refine TS.ret ?_
    obtain rfl : false = r := Option.some.inj h
    exact XS.fin [] ((True) ∧ (True)) (by kernel_rfl) ⟨trivial, trivial⟩

/-! plugtree/desc.put -/
def F35_l2 (n : Nat) (l : List Int) (k35_2 : (Int × (List Int)) → Option (List UInt8)) : (Int × (List Int)) → Option (List UInt8)
  | (x, m0) => (bif (decide (x < ((l.length : Nat) : Int))) then (bif inb x l.length then (bif (decide (m0.length + [(IntKind.wrap .u8 ((l.getD x.toNat (0 : Int))))].length ≤ 140737488355328)) then (k35_2 ((IntKind.wrap .i64 (x + (1 : Int))), (m0 ++ [(IntKind.wrap .u8 ((l.getD x.toNat (0 : Int))))]))) else none) else none) else (some (strOf m0)))
def F35 (n : Nat) (l : List Int) : Option (List UInt8) := (loopF (F35_l2 n l) n ((0 : Int), ([] : List Int)))
theorem F35_ok (n : Nat) (l : List Int) (r : List UInt8) (h : F35 n l = some r) : PureC Try.prog 35 [(.sl (.int .i64) l)] (.str r) [] := by
  refine PureC.mkS Try.func35 rfl rfl ?_
  intro w0 fz0 hfz
  replace h : (loopF (F35_l2 n l) n ((0 : Int), ([] : List Int))) = some r := h
  refine TS.seq ?_
  have hq : (True) ∧ (True) := ⟨trivial, trivial⟩
  refine TS.reg [] ?_ ?_
  · apply prop_of ?_ hq
    kernel_rfl
  refine XS.then ?_
  refine TS.seq ?_
  have hq : (True) ∧ (True) := ⟨trivial, trivial⟩
  refine TS.reg [] ?_ ?_
  · apply prop_of ?_ hq
    kernel_rfl
  refine XS.then ?_
  refine TS.seq ?_
  refine TS.seq ?_
  have hq : (True) ∧ ((True) ∧ ((True) ∧ (True))) := ⟨trivial, ⟨trivial, ⟨trivial, trivial⟩⟩⟩
  refine TS.reg [] ?_ ?_
  · apply prop_of ?_ hq
    kernel_rfl
  refine XS.then ?_
  refine TS.block ?_
  refine TS.wk (.row false 3 [] 5 (.int .u8)) ?_
  refine TS.reLoop [0] (mkMask 20 [3, 6, 7, 8]) (D := Int × (List Int)) (fun d => match d with | (x, m0) => (mkTs 20 [(3, (.row 0)), (6, (.sl (.int .i64) l)), (7, (.int .i64 ((l.length : Nat) : Int))), (8, (.int .i64 x))], [(.row 5 (.int .u8) m0)])) (fun n' d => loopF (F35_l2 n l) n' d = some r) n ((0 : Int), ([] : List Int)) h ?_ (fun d => loopF_zero _ d r) ?_
  · kernel_rfl
  · rintro n2 ⟨x, m0⟩ h
    replace h : (bif (decide (x < ((l.length : Nat) : Int))) then (bif inb x l.length then (bif (decide (m0.length + [(IntKind.wrap .u8 ((l.getD x.toNat (0 : Int))))].length ≤ 140737488355328)) then ((loopF (F35_l2 n l) n2) ((IntKind.wrap .i64 (x + (1 : Int))), (m0 ++ [(IntKind.wrap .u8 ((l.getD x.toNat (0 : Int))))]))) else none) else none) else (some (strOf m0))) = some r := h
    refine TS.seq ?_
    have hq : (True) ∧ (True) := ⟨trivial, trivial⟩
    refine TS.reg [] ?_ ?_
    · apply prop_of ?_ hq
      kernel_rfl
    refine XS.then ?_
    refine TS.seq ?_
    rcases bif_some h with ⟨c1, h⟩ | ⟨c2, h⟩
    · refine TS.cond (decide (x < ((l.length : Nat) : Int))) ?_ (fun hcz => ?_) (fun hcz => by rw [c1] at hcz; cases hcz)
      · kernel_rfl
      refine TS.skip ?_
      refine XS.then ?_
      refine TS.seq ?_
      refine TS.block ?_
      refine TS.seq ?_
      obtain ⟨t3, h⟩ := test_some h
      have hq : (inR x l.length) ∧ ((True) ∧ ((True) ∧ (True))) := ⟨inb_ok t3, ⟨trivial, ⟨trivial, trivial⟩⟩⟩
      refine TS.reg [] ?_ ?_
      · apply prop_of ?_ hq
        kernel_rfl
      refine XS.then ?_
      obtain ⟨t4, h⟩ := test_some h
      have hq : (True) ∧ ((True) ∧ ((True) ∧ (((0 < 1 ∧ True) ∧ (True)) ∧ ((m0.length + [(IntKind.wrap .u8 ((l.getD x.toNat (0 : Int))))].length ≤ 140737488355328) ∧ ((True) ∧ (True)))))) := ⟨trivial, ⟨trivial, ⟨trivial, ⟨⟨⟨by decide, trivial⟩, trivial⟩, ⟨of_decide_eq_true t4, ⟨trivial, trivial⟩⟩⟩⟩⟩⟩
      refine TS.reg [] ?_ ?_
      · apply prop_of ?_ hq
        kernel_rfl
      refine XS.blockEnd ?_
      refine XS.then ?_
      have hq : (True) ∧ ((True) ∧ (True)) := ⟨trivial, ⟨trivial, trivial⟩⟩
      refine TS.reg [] ?_ ?_
      · apply prop_of ?_ hq
        kernel_rfl
      refine XS.reAny [2] (mkMask 20 [3, 6, 7, 8]) ((IntKind.wrap .i64 (x + (1 : Int))), (m0 ++ [(IntKind.wrap .u8 ((l.getD x.toNat (0 : Int))))])) h ?_
      kernel_rfl
    · refine TS.cond (decide (x < ((l.length : Nat) : Int))) ?_ (fun hcz => by rw [c2] at hcz; cases hcz) (fun hcz => ?_)
      · kernel_rfl
      refine TS.exit ?_
      refine XS.passE ?_
      refine XS.passE ?_
      refine XS.out ?_
      refine XS.then ?_
      refine TS.seq ?_
      have hq : (True) ∧ ((True) ∧ ((True) ∧ (True))) := ⟨trivial, ⟨trivial, ⟨trivial, trivial⟩⟩⟩
      refine TS.reg [] ?_ ?_
      · apply prop_of ?_ hq
        kernel_rfl
      refine XS.then ?_
      refine TS.ret ?_
      obtain rfl : (strOf m0) = r := Option.some.inj h
      exact XS.fin [] ((True) ∧ (True)) (by kernel_rfl) ⟨trivial, trivial⟩

/-! plugtree/desc.WriteText -/
def F16 (n : Nat) (s : List UInt8) : Option ((List UInt8) × Int) := ((F8 n s).bind fun y_3 => (bif (y_3.2 != (0 : Int)) then (some (([] : List UInt8), y_3.2)) else ((F35 n [(IntKind.wrap .i64 (((y_3.1.length : Nat) : Int) + (2 : Int))), (3 : Int)]).bind fun y_4 => (bif (decide (y_4.length + y_3.1.length ≤ 9223372036854775807)) then (some ((y_4 ++ y_3.1), (0 : Int))) else none))))
theorem F16_ok (n : Nat) (s : List UInt8) (r : (List UInt8) × Int) (h : F16 n s = some r) : PureC Try.prog 16 [(.str s)] (.tup (.cons (.str r.1) (.cons (.int .i64 r.2) .nil))) [] := by
  refine PureC.mkS Try.func16 rfl rfl ?_
  intro w0 fz0 hfz
  replace h : ((F8 n s).bind fun y_3 => (bif (y_3.2 != (0 : Int)) then (some (([] : List UInt8), y_3.2)) else ((F35 n [(IntKind.wrap .i64 (((y_3.1.length : Nat) : Int) + (2 : Int))), (3 : Int)]).bind fun y_4 => (bif (decide (y_4.length + y_3.1.length ≤ 9223372036854775807)) then (some ((y_4 ++ y_3.1), (0 : Int))) else none)))) = some r := h
  refine TS.seq ?_
  have hq : (True) ∧ ((True) ∧ (True)) := ⟨trivial, ⟨trivial, trivial⟩⟩
  refine TS.reg [] ?_ ?_
  · apply prop_of ?_ hq
    kernel_rfl
  refine XS.then ?_
  refine TS.seq ?_
  obtain ⟨y_3, hx1, h⟩ := bind_some' h
  have hq : (True) ∧ ((PureC Try.prog 8 [(.str s)] (.tup (.cons (.str y_3.1) (.cons (.int .i64 y_3.2) .nil))) []) ∧ ((True) ∧ ((True) ∧ ((True) ∧ ((True) ∧ ((True) ∧ (True))))))) := ⟨trivial, ⟨F8_ok n s y_3 hx1, ⟨trivial, ⟨trivial, ⟨trivial, ⟨trivial, ⟨trivial, trivial⟩⟩⟩⟩⟩⟩⟩
  refine TS.reg [.none, (.call (.tup (.cons (.str y_3.1) (.cons (.int .i64 y_3.2) .nil))) [])] ?_ ?_
  · apply prop_of ?_ hq
    kernel_rfl
  refine XS.then ?_
  refine TS.seq ?_
  refine TS.seq ?_
  have hq : (True) ∧ ((True) ∧ (True)) := ⟨trivial, ⟨trivial, trivial⟩⟩
  refine TS.reg [] ?_ ?_
  · apply prop_of ?_ hq
    kernel_rfl
  refine XS.then ?_
  rcases bif_some h with ⟨c2, h⟩ | ⟨c3, h⟩
  · refine TS.cond (y_3.2 != (0 : Int)) ?_ (fun hcz => ?_) (fun hcz => by rw [c2] at hcz; cases hcz)
    · kernel_rfl
    refine TS.seq ?_
    have hq : (True) ∧ ((True) ∧ ((True) ∧ (True))) := ⟨trivial, ⟨trivial, ⟨trivial, trivial⟩⟩⟩
    refine TS.reg [] ?_ ?_
    · apply prop_of ?_ hq
      kernel_rfl
    refine XS.then ?_
    refine TS.ret ?_
    refine XS.passR ?_
    obtain rfl : (([] : List UInt8), y_3.2) = r := Option.some.inj h
    exact XS.fin [] ((True) ∧ ((True) ∧ (True))) (by kernel_rfl) ⟨trivial, ⟨trivial, trivial⟩⟩
  · refine TS.cond (y_3.2 != (0 : Int)) ?_ (fun hcz => by rw [c3] at hcz; cases hcz) (fun hcz => ?_)
    · kernel_rfl
    refine TS.skip ?_
    refine XS.then ?_
    refine TS.seq ?_
    obtain ⟨y_4, hx4, h⟩ := bind_some' h
    obtain ⟨t5, h⟩ := test_some h
    have hq : (True) ∧ ((True) ∧ ((True) ∧ (((0 < 2 ∧ True) ∧ ((1 < 2 ∧ True) ∧ (True))) ∧ ((((True) ∧ (True)) ∧ PureC Try.prog 35 [(.sl (.int .i64) [(IntKind.wrap .i64 (((y_3.1.length : Nat) : Int) + (2 : Int))), (3 : Int)])] (.str y_4) []) ∧ ((True) ∧ ((y_4.length + y_3.1.length ≤ 9223372036854775807) ∧ ((True) ∧ ((True) ∧ (True))))))))) := ⟨trivial, ⟨trivial, ⟨trivial, ⟨⟨⟨by decide, trivial⟩, ⟨⟨by decide, trivial⟩, trivial⟩⟩, ⟨⟨⟨trivial, trivial⟩, F35_ok n [(IntKind.wrap .i64 (((y_3.1.length : Nat) : Int) + (2 : Int))), (3 : Int)] y_4 hx4⟩, ⟨trivial, ⟨of_decide_eq_true t5, ⟨trivial, ⟨trivial, trivial⟩⟩⟩⟩⟩⟩⟩⟩⟩
    refine TS.reg [.none, .none, .none, .none, (.call (.str y_4) [])] ?_ ?_
    · apply prop_of ?_ hq
      kernel_rfl
    refine XS.then ?_
    refine TS.ret ?_
    obtain rfl : ((y_4 ++ y_3.1), (0 : Int)) = r := Option.some.inj h
    exact XS.fin [] ((True) ∧ ((True) ∧ (True))) (by kernel_rfl) ⟨trivial, ⟨trivial, trivial⟩⟩

/-! plugtree/plugref.Between -/
def F33 (n : Nat) (vn : Int) (low : Int) (high : Int) : Option Bool := (bif (decide (low ≤ vn)) then (some (decide (vn ≤ high))) else (some false))
theorem F33_ok (n : Nat) (vn : Int) (low : Int) (high : Int) (r : Bool) (h : F33 n vn low high = some r) : PureC Try.prog 33 [(.int .i64 vn), (.int .i64 low), (.int .i64 high)] (.bool r) [] := by
  refine PureC.mkS Try.func33 rfl rfl ?_
  intro w0 fz0 hfz
  replace h : (bif (decide (low ≤ vn)) then (some (decide (vn ≤ high))) else (some false)) = some r := h
  refine TS.seq ?_
  have hq : (True) ∧ (True) := ⟨trivial, trivial⟩
  refine TS.reg [] ?_ ?_
  · apply prop_of ?_ hq
    kernel_rfl
  refine XS.then ?_
  refine TS.seq ?_
  rcases bif_some h with ⟨c1, h⟩ | ⟨c2, h⟩
  · have hq : (True) ∧ ((True) ∧ ((True) ∧ (((True) ∧ (decide (low ≤ vn)) = true) ∧ ((True) ∧ ((True) ∧ ((True) ∧ ((True) ∧ ((True) ∧ (True))))))))) := ⟨trivial, ⟨trivial, ⟨trivial, ⟨⟨trivial, c1⟩, ⟨trivial, ⟨trivial, ⟨trivial, ⟨trivial, ⟨trivial, trivial⟩⟩⟩⟩⟩⟩⟩⟩⟩
    refine TS.reg [.none, .none, .none, .dec true] ?_ ?_
    · apply prop_of ?_ hq
      kernel_rfl
    refine XS.then ?_
    refine TS.ret ?_
    obtain rfl : (decide (vn ≤ high)) = r := Option.some.inj h
    exact XS.fin [] ((True) ∧ (True)) (by kernel_rfl) ⟨trivial, trivial⟩
  · have hq : (True) ∧ ((True) ∧ ((True) ∧ (((True) ∧ (decide (low ≤ vn)) = false) ∧ ((True) ∧ ((True) ∧ (True)))))) := ⟨trivial, ⟨trivial, ⟨trivial, ⟨⟨trivial, c2⟩, ⟨trivial, ⟨trivial, trivial⟩⟩⟩⟩⟩⟩
    refine TS.reg [.none, .none, .none, .dec false] ?_ ?_
    · apply prop_of ?_ hq
      kernel_rfl
    refine XS.then ?_
    refine TS.ret ?_
    obtain rfl : false = r := Option.some.inj h
    exact XS.fin [] ((True) ∧ (True)) (by kernel_rfl) ⟨trivial, trivial⟩

/-! plugtree/plugref.bytesOf -/
def F36_l2 (n : Nat) (l : List Int) (k36_2 : (Int × (List Int)) → Option ((List UInt8) × Bool)) : (Int × (List Int)) → Option ((List UInt8) × Bool)
  | (x, m0) => (bif (decide (x < ((l.length : Nat) : Int))) then (bif inb x l.length then ((F33 n (l.getD x.toNat (0 : Int)) (0 : Int) (255 : Int)).bind fun y_3 => (bif (!y_3) then (some (([] : List UInt8), false)) else (bif (decide (m0.length + [(IntKind.wrap .u8 ((l.getD x.toNat (0 : Int))))].length ≤ 140737488355328)) then (k36_2 ((IntKind.wrap .i64 (x + (1 : Int))), (m0 ++ [(IntKind.wrap .u8 ((l.getD x.toNat (0 : Int))))]))) else none))) else none) else (some ((strOf m0), true)))
def F36 (n : Nat) (l : List Int) : Option ((List UInt8) × Bool) := (loopF (F36_l2 n l) n ((0 : Int), ([] : List Int)))
theorem F36_ok (n : Nat) (l : List Int) (r : (List UInt8) × Bool) (h : F36 n l = some r) : PureC Try.prog 36 [(.sl (.int .i64) l)] (.tup (.cons (.str r.1) (.cons (.bool r.2) .nil))) [] := by
  refine PureC.mkS Try.func36 rfl rfl ?_
  intro w0 fz0 hfz
  replace h : (loopF (F36_l2 n l) n ((0 : Int), ([] : List Int))) = some r := h
  refine TS.seq ?_
  have hq : (True) ∧ ((True) ∧ (True)) := ⟨trivial, ⟨trivial, trivial⟩⟩
  refine TS.reg [] ?_ ?_
  · apply prop_of ?_ hq
    kernel_rfl
  refine XS.then ?_
  refine TS.seq ?_
  have hq : (True) ∧ (True) := ⟨trivial, trivial⟩
  refine TS.reg [] ?_ ?_
  · apply prop_of ?_ hq
    kernel_rfl
  refine XS.then ?_
  refine TS.seq ?_
  refine TS.seq ?_
  have hq : (True) ∧ ((True) ∧ ((True) ∧ (True))) := ⟨trivial, ⟨trivial, ⟨trivial, trivial⟩⟩⟩
  refine TS.reg [] ?_ ?_
  · apply prop_of ?_ hq
    kernel_rfl
  refine XS.then ?_
  refine TS.block ?_
  refine TS.wk (.row false 4 [] 5 (.int .u8)) ?_
  refine TS.reLoop [0] (mkMask 24 [4, 7, 8, 9]) (D := Int × (List Int)) (fun d => match d with | (x, m0) => (mkTs 24 [(4, (.row 0)), (7, (.sl (.int .i64) l)), (8, (.int .i64 ((l.length : Nat) : Int))), (9, (.int .i64 x))], [(.row 5 (.int .u8) m0)])) (fun n' d => loopF (F36_l2 n l) n' d = some r) n ((0 : Int), ([] : List Int)) h ?_ (fun d => loopF_zero _ d r) ?_
  · kernel_rfl
  · rintro n2 ⟨x, m0⟩ h
    replace h : (bif (decide (x < ((l.length : Nat) : Int))) then (bif inb x l.length then ((F33 n (l.getD x.toNat (0 : Int)) (0 : Int) (255 : Int)).bind fun y_3 => (bif (!y_3) then (some (([] : List UInt8), false)) else (bif (decide (m0.length + [(IntKind.wrap .u8 ((l.getD x.toNat (0 : Int))))].length ≤ 140737488355328)) then ((loopF (F36_l2 n l) n2) ((IntKind.wrap .i64 (x + (1 : Int))), (m0 ++ [(IntKind.wrap .u8 ((l.getD x.toNat (0 : Int))))]))) else none))) else none) else (some ((strOf m0), true))) = some r := h
    refine TS.seq ?_
    have hq : (True) ∧ (True) := ⟨trivial, trivial⟩
    refine TS.reg [] ?_ ?_
    · apply prop_of ?_ hq
      kernel_rfl
    refine XS.then ?_
    refine TS.seq ?_
    rcases bif_some h with ⟨c1, h⟩ | ⟨c2, h⟩
    · refine TS.cond (decide (x < ((l.length : Nat) : Int))) ?_ (fun hcz => ?_) (fun hcz => by rw [c1] at hcz; cases hcz)
      · kernel_rfl
      refine TS.skip ?_
      refine XS.then ?_
      refine TS.seq ?_
      refine TS.block ?_
      refine TS.seq ?_
      obtain ⟨t3, h⟩ := test_some h
      have hq : (inR x l.length) ∧ ((True) ∧ ((True) ∧ (True))) := ⟨inb_ok t3, ⟨trivial, ⟨trivial, trivial⟩⟩⟩
      refine TS.reg [] ?_ ?_
      · apply prop_of ?_ hq
        kernel_rfl
      refine XS.then ?_
      refine TS.seq ?_
      refine TS.seq ?_
      obtain ⟨y_3, hx4, h⟩ := bind_some' h
      have hq : (True) ∧ ((PureC Try.prog 33 [(.int .i64 (l.getD x.toNat (0 : Int))), (.int .i64 (0 : Int)), (.int .i64 (255 : Int))] (.bool y_3) []) ∧ ((True) ∧ (True))) := ⟨trivial, ⟨F33_ok n (l.getD x.toNat (0 : Int)) (0 : Int) (255 : Int) y_3 hx4, ⟨trivial, trivial⟩⟩⟩
      refine TS.reg [.none, (.call (.bool y_3) [])] ?_ ?_
      · apply prop_of ?_ hq
        kernel_rfl
      refine XS.then ?_
      rcases bif_some h with ⟨c5, h⟩ | ⟨c6, h⟩
      · refine TS.cond (!y_3) ?_ (fun hcz => ?_) (fun hcz => by rw [c5] at hcz; cases hcz)
        · kernel_rfl
        refine TS.seq ?_
        have hq : (True) ∧ ((True) ∧ (True)) := ⟨trivial, ⟨trivial, trivial⟩⟩
        refine TS.reg [] ?_ ?_
        · apply prop_of ?_ hq
          kernel_rfl
        refine XS.then ?_
        refine TS.ret ?_
        refine XS.passR ?_
        refine XS.blockRet ?_
        refine XS.passR ?_
        refine XS.passR ?_
        refine XS.blockRet ?_
        refine XS.passR ?_
        obtain rfl : (([] : List UInt8), false) = r := Option.some.inj h
        exact XS.fin [] ((True) ∧ ((True) ∧ (True))) (by kernel_rfl) ⟨trivial, ⟨trivial, trivial⟩⟩
      · refine TS.cond (!y_3) ?_ (fun hcz => by rw [c6] at hcz; cases hcz) (fun hcz => ?_)
        · kernel_rfl
        refine TS.skip ?_
        refine XS.then ?_
        obtain ⟨t7, h⟩ := test_some h
        have hq : (True) ∧ ((True) ∧ ((True) ∧ (((0 < 1 ∧ True) ∧ (True)) ∧ ((m0.length + [(IntKind.wrap .u8 ((l.getD x.toNat (0 : Int))))].length ≤ 140737488355328) ∧ ((True) ∧ (True)))))) := ⟨trivial, ⟨trivial, ⟨trivial, ⟨⟨⟨by decide, trivial⟩, trivial⟩, ⟨of_decide_eq_true t7, ⟨trivial, trivial⟩⟩⟩⟩⟩⟩
        refine TS.reg [] ?_ ?_
        · apply prop_of ?_ hq
          kernel_rfl
        refine XS.blockEnd ?_
        refine XS.then ?_
        have hq : (True) ∧ ((True) ∧ (True)) := ⟨trivial, ⟨trivial, trivial⟩⟩
        refine TS.reg [] ?_ ?_
        · apply prop_of ?_ hq
          kernel_rfl
        refine XS.reAny [2] (mkMask 24 [4, 7, 8, 9]) ((IntKind.wrap .i64 (x + (1 : Int))), (m0 ++ [(IntKind.wrap .u8 ((l.getD x.toNat (0 : Int))))])) h ?_
        kernel_rfl
    · refine TS.cond (decide (x < ((l.length : Nat) : Int))) ?_ (fun hcz => by rw [c2] at hcz; cases hcz) (fun hcz => ?_)
      · kernel_rfl
      refine TS.exit ?_
      refine XS.passE ?_
      refine XS.passE ?_
      refine XS.out ?_
      refine XS.then ?_
      refine TS.seq ?_
      have hq : (True) ∧ ((True) ∧ ((True) ∧ ((True) ∧ (True)))) := ⟨trivial, ⟨trivial, ⟨trivial, ⟨trivial, trivial⟩⟩⟩⟩
      refine TS.reg [] ?_ ?_
      · apply prop_of ?_ hq
        kernel_rfl
      refine XS.then ?_
      refine TS.ret ?_
      obtain rfl : ((strOf m0), true) = r := Option.some.inj h
      exact XS.fin [] ((True) ∧ ((True) ∧ (True))) (by kernel_rfl) ⟨trivial, ⟨trivial, trivial⟩⟩

/-! plugtree/plugref.TextText -/
def F17 (n : Nat) (s : List UInt8) : Option ((List UInt8) × Int) := ((F9 n s).bind fun y_3 => (bif (y_3.2 != (0 : Int)) then (some (([] : List UInt8), y_3.2)) else ((F36 n [(IntKind.wrap .i64 (((y_3.1.length : Nat) : Int) + (2 : Int))), (3 : Int)]).bind fun y_4 => (bif (decide (y_4.1.length + y_3.1.length ≤ 9223372036854775807)) then (some ((y_4.1 ++ y_3.1), (0 : Int))) else none))))
theorem F17_ok (n : Nat) (s : List UInt8) (r : (List UInt8) × Int) (h : F17 n s = some r) : PureC Try.prog 17 [(.str s)] (.tup (.cons (.str r.1) (.cons (.int .i64 r.2) .nil))) [] := by
  refine PureC.mkS Try.func17 rfl rfl ?_
  intro w0 fz0 hfz
  replace h : ((F9 n s).bind fun y_3 => (bif (y_3.2 != (0 : Int)) then (some (([] : List UInt8), y_3.2)) else ((F36 n [(IntKind.wrap .i64 (((y_3.1.length : Nat) : Int) + (2 : Int))), (3 : Int)]).bind fun y_4 => (bif (decide (y_4.1.length + y_3.1.length ≤ 9223372036854775807)) then (some ((y_4.1 ++ y_3.1), (0 : Int))) else none)))) = some r := h
  refine TS.seq ?_
  have hq : (True) ∧ ((True) ∧ (True)) := ⟨trivial, ⟨trivial, trivial⟩⟩
  refine TS.reg [] ?_ ?_
  · apply prop_of ?_ hq
    kernel_rfl
  refine XS.then ?_
  refine TS.seq ?_
  obtain ⟨y_3, hx1, h⟩ := bind_some' h
  have hq : (True) ∧ ((PureC Try.prog 9 [(.str s)] (.tup (.cons (.str y_3.1) (.cons (.int .i64 y_3.2) .nil))) []) ∧ ((True) ∧ ((True) ∧ ((True) ∧ ((True) ∧ ((True) ∧ (True))))))) := ⟨trivial, ⟨F9_ok n s y_3 hx1, ⟨trivial, ⟨trivial, ⟨trivial, ⟨trivial, ⟨trivial, trivial⟩⟩⟩⟩⟩⟩⟩
  refine TS.reg [.none, (.call (.tup (.cons (.str y_3.1) (.cons (.int .i64 y_3.2) .nil))) [])] ?_ ?_
  · apply prop_of ?_ hq
    kernel_rfl
  refine XS.then ?_
  refine TS.seq ?_
  refine TS.seq ?_
  have hq : (True) ∧ ((True) ∧ (True)) := ⟨trivial, ⟨trivial, trivial⟩⟩
  refine TS.reg [] ?_ ?_
  · apply prop_of ?_ hq
    kernel_rfl
  refine XS.then ?_
  rcases bif_some h with ⟨c2, h⟩ | ⟨c3, h⟩
  · refine TS.cond (y_3.2 != (0 : Int)) ?_ (fun hcz => ?_) (fun hcz => by rw [c2] at hcz; cases hcz)
    · kernel_rfl
    refine TS.seq ?_
    have hq : (True) ∧ ((True) ∧ ((True) ∧ (True))) := ⟨trivial, ⟨trivial, ⟨trivial, trivial⟩⟩⟩
    refine TS.reg [] ?_ ?_
    · apply prop_of ?_ hq
      kernel_rfl
    refine XS.then ?_
    refine TS.ret ?_
    refine XS.passR ?_
    obtain rfl : (([] : List UInt8), y_3.2) = r := Option.some.inj h
    exact XS.fin [] ((True) ∧ ((True) ∧ (True))) (by kernel_rfl) ⟨trivial, ⟨trivial, trivial⟩⟩
  · refine TS.cond (y_3.2 != (0 : Int)) ?_ (fun hcz => by rw [c3] at hcz; cases hcz) (fun hcz => ?_)
    · kernel_rfl
    refine TS.skip ?_
    refine XS.then ?_
    refine TS.seq ?_
    obtain ⟨y_4, hx4, h⟩ := bind_some' h
    have hq : (True) ∧ ((True) ∧ ((True) ∧ (((0 < 2 ∧ True) ∧ ((1 < 2 ∧ True) ∧ (True))) ∧ ((((True) ∧ (True)) ∧ PureC Try.prog 36 [(.sl (.int .i64) [(IntKind.wrap .i64 (((y_3.1.length : Nat) : Int) + (2 : Int))), (3 : Int)])] (.tup (.cons (.str y_4.1) (.cons (.bool y_4.2) .nil))) []) ∧ ((True) ∧ ((True) ∧ ((True) ∧ ((True) ∧ ((True) ∧ (True)))))))))) := ⟨trivial, ⟨trivial, ⟨trivial, ⟨⟨⟨by decide, trivial⟩, ⟨⟨by decide, trivial⟩, trivial⟩⟩, ⟨⟨⟨trivial, trivial⟩, F36_ok n [(IntKind.wrap .i64 (((y_3.1.length : Nat) : Int) + (2 : Int))), (3 : Int)] y_4 hx4⟩, ⟨trivial, ⟨trivial, ⟨trivial, ⟨trivial, ⟨trivial, trivial⟩⟩⟩⟩⟩⟩⟩⟩⟩⟩
    refine TS.reg [.none, .none, .none, .none, (.call (.tup (.cons (.str y_4.1) (.cons (.bool y_4.2) .nil))) [])] ?_ ?_
    · apply prop_of ?_ hq
      kernel_rfl
    refine XS.then ?_
    refine TS.seq ?_
    obtain ⟨t5, h⟩ := test_some h
    have hq : (True) ∧ ((True) ∧ ((y_4.1.length + y_3.1.length ≤ 9223372036854775807) ∧ ((True) ∧ ((True) ∧ (True))))) := ⟨trivial, ⟨trivial, ⟨of_decide_eq_true t5, ⟨trivial, ⟨trivial, trivial⟩⟩⟩⟩⟩
    refine TS.reg [] ?_ ?_
    · apply prop_of ?_ hq
      kernel_rfl
    refine XS.then ?_
    refine TS.ret ?_
    obtain rfl : ((y_4.1 ++ y_3.1), (0 : Int)) = r := Option.some.inj h
    exact XS.fin [] ((True) ∧ ((True) ∧ (True))) (by kernel_rfl) ⟨trivial, ⟨trivial, trivial⟩⟩

/-! plugtree/desc.ReadText -/
def F18 (n : Nat) (t : List UInt8) : Option ((List UInt8) × Int) := (bif (decide (((t.length : Nat) : Int) < (2 : Int))) then (some (([] : List UInt8), (3 : Int))) else (bif inb (0 : Int) t.length then (bif ((IntKind.wrap .i64 ((((t.getD 0 0).toNat : Nat) : Int))) != ((t.length : Nat) : Int)) then (some (([] : List UInt8), (4 : Int))) else (bif inb (1 : Int) t.length then (bif ((((t.getD 1 0).toNat : Nat) : Int) != (3 : Int)) then (some (([] : List UInt8), (4 : Int))) else (bif subB t.length (some (2 : Int)) none then ((F10 n (t.drop 2)).bind fun y_3 => (some (y_3.1, y_3.2))) else none)) else none)) else none))
theorem F18_ok (n : Nat) (t : List UInt8) (r : (List UInt8) × Int) (h : F18 n t = some r) : PureC Try.prog 18 [(.str t)] (.tup (.cons (.str r.1) (.cons (.int .i64 r.2) .nil))) [] := by
  refine PureC.mkS Try.func18 rfl rfl ?_
  intro w0 fz0 hfz
  replace h : (bif (decide (((t.length : Nat) : Int) < (2 : Int))) then (some (([] : List UInt8), (3 : Int))) else (bif inb (0 : Int) t.length then (bif ((IntKind.wrap .i64 ((((t.getD 0 0).toNat : Nat) : Int))) != ((t.length : Nat) : Int)) then (some (([] : List UInt8), (4 : Int))) else (bif inb (1 : Int) t.length then (bif ((((t.getD 1 0).toNat : Nat) : Int) != (3 : Int)) then (some (([] : List UInt8), (4 : Int))) else (bif subB t.length (some (2 : Int)) none then ((F10 n (t.drop 2)).bind fun y_3 => (some (y_3.1, y_3.2))) else none)) else none)) else none)) = some r := h
  refine TS.seq ?_
  have hq : (True) ∧ ((True) ∧ (True)) := ⟨trivial, ⟨trivial, trivial⟩⟩
  refine TS.reg [] ?_ ?_
  · apply prop_of ?_ hq
    kernel_rfl
  refine XS.then ?_
  refine TS.seq ?_
  refine TS.block ?_
  refine TS.seq ?_
  have hq : (True) ∧ ((True) ∧ ((True) ∧ ((True) ∧ (True)))) := ⟨trivial, ⟨trivial, ⟨trivial, ⟨trivial, trivial⟩⟩⟩⟩
  refine TS.reg [] ?_ ?_
  · apply prop_of ?_ hq
    kernel_rfl
  refine XS.then ?_
  rcases bif_some h with ⟨c1, h⟩ | ⟨c2, h⟩
  · refine TS.cond (decide (((t.length : Nat) : Int) < (2 : Int))) ?_ (fun hcz => ?_) (fun hcz => by rw [c1] at hcz; cases hcz)
    · kernel_rfl
    refine TS.seq ?_
    have hq : (True) ∧ ((True) ∧ (True)) := ⟨trivial, ⟨trivial, trivial⟩⟩
    refine TS.reg [] ?_ ?_
    · apply prop_of ?_ hq
      kernel_rfl
    refine XS.then ?_
    refine TS.ret ?_
    refine XS.blockRet ?_
    refine XS.passR ?_
    obtain rfl : (([] : List UInt8), (3 : Int)) = r := Option.some.inj h
    exact XS.fin [] ((True) ∧ ((True) ∧ (True))) (by kernel_rfl) ⟨trivial, ⟨trivial, trivial⟩⟩
  · refine TS.cond (decide (((t.length : Nat) : Int) < (2 : Int))) ?_ (fun hcz => by rw [c2] at hcz; cases hcz) (fun hcz => ?_)
    · kernel_rfl
    refine TS.seq ?_
    obtain ⟨t3, h⟩ := test_some h
    rcases bif_some h with ⟨c4, h⟩ | ⟨c5, h⟩
    · have hq : (True) ∧ ((inR (0 : Int) t.length) ∧ ((True) ∧ ((True) ∧ ((True) ∧ ((True) ∧ (((True) ∧ ((IntKind.wrap .i64 ((((t.getD 0 0).toNat : Nat) : Int))) != ((t.length : Nat) : Int)) = true) ∧ ((True) ∧ ((True) ∧ (True))))))))) := ⟨trivial, ⟨inb_ok t3, ⟨trivial, ⟨trivial, ⟨trivial, ⟨trivial, ⟨⟨trivial, c4⟩, ⟨trivial, ⟨trivial, trivial⟩⟩⟩⟩⟩⟩⟩⟩⟩
      refine TS.reg [.none, .none, .none, .none, .none, .none, .dec true] ?_ ?_
      · apply prop_of ?_ hq
        kernel_rfl
      refine XS.then ?_
      refine TS.yes ?_ ?_
      · kernel_rfl
      refine TS.seq ?_
      have hq : (True) ∧ ((True) ∧ (True)) := ⟨trivial, ⟨trivial, trivial⟩⟩
      refine TS.reg [] ?_ ?_
      · apply prop_of ?_ hq
        kernel_rfl
      refine XS.then ?_
      refine TS.ret ?_
      refine XS.blockRet ?_
      refine XS.passR ?_
      obtain rfl : (([] : List UInt8), (4 : Int)) = r := Option.some.inj h
      exact XS.fin [] ((True) ∧ ((True) ∧ (True))) (by kernel_rfl) ⟨trivial, ⟨trivial, trivial⟩⟩
    · obtain ⟨t6, h⟩ := test_some h
      have hq : (True) ∧ ((inR (0 : Int) t.length) ∧ ((True) ∧ ((True) ∧ ((True) ∧ ((True) ∧ (((True) ∧ ((IntKind.wrap .i64 ((((t.getD 0 0).toNat : Nat) : Int))) != ((t.length : Nat) : Int)) = false) ∧ ((True) ∧ ((inR (1 : Int) t.length) ∧ ((True) ∧ ((True) ∧ ((True) ∧ (True)))))))))))) := ⟨trivial, ⟨inb_ok t3, ⟨trivial, ⟨trivial, ⟨trivial, ⟨trivial, ⟨⟨trivial, c5⟩, ⟨trivial, ⟨inb_ok t6, ⟨trivial, ⟨trivial, ⟨trivial, trivial⟩⟩⟩⟩⟩⟩⟩⟩⟩⟩⟩⟩
      refine TS.reg [.none, .none, .none, .none, .none, .none, .dec false] ?_ ?_
      · apply prop_of ?_ hq
        kernel_rfl
      refine XS.then ?_
      rcases bif_some h with ⟨c7, h⟩ | ⟨c8, h⟩
      · refine TS.cond ((((t.getD 1 0).toNat : Nat) : Int) != (3 : Int)) ?_ (fun hcz => ?_) (fun hcz => by rw [c7] at hcz; cases hcz)
        · kernel_rfl
        refine TS.seq ?_
        have hq : (True) ∧ ((True) ∧ (True)) := ⟨trivial, ⟨trivial, trivial⟩⟩
        refine TS.reg [] ?_ ?_
        · apply prop_of ?_ hq
          kernel_rfl
        refine XS.then ?_
        refine TS.ret ?_
        refine XS.blockRet ?_
        refine XS.passR ?_
        obtain rfl : (([] : List UInt8), (4 : Int)) = r := Option.some.inj h
        exact XS.fin [] ((True) ∧ ((True) ∧ (True))) (by kernel_rfl) ⟨trivial, ⟨trivial, trivial⟩⟩
      · refine TS.cond ((((t.getD 1 0).toNat : Nat) : Int) != (3 : Int)) ?_ (fun hcz => by rw [c8] at hcz; cases hcz) (fun hcz => ?_)
        · kernel_rfl
        refine TS.skip ?_
        refine XS.blockEnd ?_
        refine XS.then ?_
        refine TS.seq ?_
        obtain ⟨t9, h⟩ := test_some h
        obtain ⟨y_3, hx10, h⟩ := bind_some' h
        have hq : (True) ∧ ((subC t.length (some (2 : Int)) none) ∧ ((PureC Try.prog 10 [(.str (t.drop 2))] (.tup (.cons (.str y_3.1) (.cons (.int .i64 y_3.2) .nil))) []) ∧ ((True) ∧ ((True) ∧ ((True) ∧ ((True) ∧ (True))))))) := ⟨trivial, ⟨subB_ok t9, ⟨F10_ok n (t.drop 2) y_3 hx10, ⟨trivial, ⟨trivial, ⟨trivial, ⟨trivial, trivial⟩⟩⟩⟩⟩⟩⟩
        refine TS.reg [.none, .none, (.call (.tup (.cons (.str y_3.1) (.cons (.int .i64 y_3.2) .nil))) [])] ?_ ?_
        · apply prop_of ?_ hq
          kernel_rfl
        refine XS.then ?_
        refine TS.ret ?_
        obtain rfl : (y_3.1, y_3.2) = r := Option.some.inj h
        exact XS.fin [] ((True) ∧ ((True) ∧ (True))) (by kernel_rfl) ⟨trivial, ⟨trivial, trivial⟩⟩

/-! plugtree/plugref.ReadText -/
def F19 (n : Nat) (t : List UInt8) : Option ((List UInt8) × Int) := (bif (decide (((t.length : Nat) : Int) < (2 : Int))) then (some (([] : List UInt8), (3 : Int))) else (bif inb (0 : Int) t.length then (bif ((IntKind.wrap .i64 ((((t.getD 0 0).toNat : Nat) : Int))) != ((t.length : Nat) : Int)) then (some (([] : List UInt8), (4 : Int))) else (bif inb (1 : Int) t.length then (bif ((((t.getD 1 0).toNat : Nat) : Int) != (3 : Int)) then (some (([] : List UInt8), (4 : Int))) else (bif subB t.length (some (2 : Int)) none then ((F11 n (t.drop 2)).bind fun y_3 => (some (y_3.1, y_3.2))) else none)) else none)) else none))
theorem F19_ok (n : Nat) (t : List UInt8) (r : (List UInt8) × Int) (h : F19 n t = some r) : PureC Try.prog 19 [(.str t)] (.tup (.cons (.str r.1) (.cons (.int .i64 r.2) .nil))) [] := by
  refine PureC.mkS Try.func19 rfl rfl ?_
  intro w0 fz0 hfz
  replace h : (bif (decide (((t.length : Nat) : Int) < (2 : Int))) then (some (([] : List UInt8), (3 : Int))) else (bif inb (0 : Int) t.length then (bif ((IntKind.wrap .i64 ((((t.getD 0 0).toNat : Nat) : Int))) != ((t.length : Nat) : Int)) then (some (([] : List UInt8), (4 : Int))) else (bif inb (1 : Int) t.length then (bif ((((t.getD 1 0).toNat : Nat) : Int) != (3 : Int)) then (some (([] : List UInt8), (4 : Int))) else (bif subB t.length (some (2 : Int)) none then ((F11 n (t.drop 2)).bind fun y_3 => (some (y_3.1, y_3.2))) else none)) else none)) else none)) = some r := h
  refine TS.seq ?_
  have hq : (True) ∧ ((True) ∧ (True)) := ⟨trivial, ⟨trivial, trivial⟩⟩
  refine TS.reg [] ?_ ?_
  · apply prop_of ?_ hq
    kernel_rfl
  refine XS.then ?_
  refine TS.seq ?_
  refine TS.seq ?_
  have hq : (True) ∧ ((True) ∧ ((True) ∧ (True))) := ⟨trivial, ⟨trivial, ⟨trivial, trivial⟩⟩⟩
  refine TS.reg [] ?_ ?_
  · apply prop_of ?_ hq
    kernel_rfl
  refine XS.then ?_
  rcases bif_some h with ⟨c1, h⟩ | ⟨c2, h⟩
  · refine TS.cond (decide (((t.length : Nat) : Int) < (2 : Int))) ?_ (fun hcz => ?_) (fun hcz => by rw [c1] at hcz; cases hcz)
    · kernel_rfl
    refine TS.seq ?_
    have hq : (True) ∧ ((True) ∧ (True)) := ⟨trivial, ⟨trivial, trivial⟩⟩
    refine TS.reg [] ?_ ?_
    · apply prop_of ?_ hq
      kernel_rfl
    refine XS.then ?_
    refine TS.ret ?_
    refine XS.passR ?_
    obtain rfl : (([] : List UInt8), (3 : Int)) = r := Option.some.inj h
    exact XS.fin [] ((True) ∧ ((True) ∧ (True))) (by kernel_rfl) ⟨trivial, ⟨trivial, trivial⟩⟩
  · refine TS.cond (decide (((t.length : Nat) : Int) < (2 : Int))) ?_ (fun hcz => by rw [c2] at hcz; cases hcz) (fun hcz => ?_)
    · kernel_rfl
    refine TS.skip ?_
    refine XS.then ?_
    refine TS.seq ?_
    refine TS.seq ?_
    obtain ⟨t3, h⟩ := test_some h
    rcases bif_some h with ⟨c4, h⟩ | ⟨c5, h⟩
    · have hq : (True) ∧ ((inR (0 : Int) t.length) ∧ ((True) ∧ ((True) ∧ ((True) ∧ ((True) ∧ (((True) ∧ ((IntKind.wrap .i64 ((((t.getD 0 0).toNat : Nat) : Int))) != ((t.length : Nat) : Int)) = true) ∧ ((True) ∧ (True)))))))) := ⟨trivial, ⟨inb_ok t3, ⟨trivial, ⟨trivial, ⟨trivial, ⟨trivial, ⟨⟨trivial, c4⟩, ⟨trivial, trivial⟩⟩⟩⟩⟩⟩⟩⟩
      refine TS.reg [.none, .none, .none, .none, .none, .none, .dec true] ?_ ?_
      · apply prop_of ?_ hq
        kernel_rfl
      refine XS.then ?_
      refine TS.yes ?_ ?_
      · kernel_rfl
      refine TS.seq ?_
      have hq : (True) ∧ ((True) ∧ (True)) := ⟨trivial, ⟨trivial, trivial⟩⟩
      refine TS.reg [] ?_ ?_
      · apply prop_of ?_ hq
        kernel_rfl
      refine XS.then ?_
      refine TS.ret ?_
      refine XS.passR ?_
      obtain rfl : (([] : List UInt8), (4 : Int)) = r := Option.some.inj h
      exact XS.fin [] ((True) ∧ ((True) ∧ (True))) (by kernel_rfl) ⟨trivial, ⟨trivial, trivial⟩⟩
    · obtain ⟨t6, h⟩ := test_some h
      have hq : (True) ∧ ((inR (0 : Int) t.length) ∧ ((True) ∧ ((True) ∧ ((True) ∧ ((True) ∧ (((True) ∧ ((IntKind.wrap .i64 ((((t.getD 0 0).toNat : Nat) : Int))) != ((t.length : Nat) : Int)) = false) ∧ ((True) ∧ ((inR (1 : Int) t.length) ∧ ((True) ∧ ((True) ∧ (True))))))))))) := ⟨trivial, ⟨inb_ok t3, ⟨trivial, ⟨trivial, ⟨trivial, ⟨trivial, ⟨⟨trivial, c5⟩, ⟨trivial, ⟨inb_ok t6, ⟨trivial, ⟨trivial, trivial⟩⟩⟩⟩⟩⟩⟩⟩⟩⟩⟩
      refine TS.reg [.none, .none, .none, .none, .none, .none, .dec false] ?_ ?_
      · apply prop_of ?_ hq
        kernel_rfl
      refine XS.then ?_
      rcases bif_some h with ⟨c7, h⟩ | ⟨c8, h⟩
      · refine TS.cond ((((t.getD 1 0).toNat : Nat) : Int) != (3 : Int)) ?_ (fun hcz => ?_) (fun hcz => by rw [c7] at hcz; cases hcz)
        · kernel_rfl
        refine TS.seq ?_
        have hq : (True) ∧ ((True) ∧ (True)) := ⟨trivial, ⟨trivial, trivial⟩⟩
        refine TS.reg [] ?_ ?_
        · apply prop_of ?_ hq
          kernel_rfl
        refine XS.then ?_
        refine TS.ret ?_
        refine XS.passR ?_
        obtain rfl : (([] : List UInt8), (4 : Int)) = r := Option.some.inj h
        exact XS.fin [] ((True) ∧ ((True) ∧ (True))) (by kernel_rfl) ⟨trivial, ⟨trivial, trivial⟩⟩
      · refine TS.cond ((((t.getD 1 0).toNat : Nat) : Int) != (3 : Int)) ?_ (fun hcz => by rw [c8] at hcz; cases hcz) (fun hcz => ?_)
        · kernel_rfl
        refine TS.skip ?_
        refine XS.then ?_
        refine TS.seq ?_
        obtain ⟨t9, h⟩ := test_some h
        obtain ⟨y_3, hx10, h⟩ := bind_some' h
        have hq : (True) ∧ ((subC t.length (some (2 : Int)) none) ∧ ((PureC Try.prog 11 [(.str (t.drop 2))] (.tup (.cons (.str y_3.1) (.cons (.int .i64 y_3.2) .nil))) []) ∧ ((True) ∧ ((True) ∧ ((True) ∧ ((True) ∧ (True))))))) := ⟨trivial, ⟨subB_ok t9, ⟨F11_ok n (t.drop 2) y_3 hx10, ⟨trivial, ⟨trivial, ⟨trivial, ⟨trivial, trivial⟩⟩⟩⟩⟩⟩⟩
        refine TS.reg [.none, .none, (.call (.tup (.cons (.str y_3.1) (.cons (.int .i64 y_3.2) .nil))) [])] ?_ ?_
        · apply prop_of ?_ hq
          kernel_rfl
        refine XS.then ?_
        refine TS.ret ?_
        obtain rfl : (y_3.1, y_3.2) = r := Option.some.inj h
        exact XS.fin [] ((True) ∧ ((True) ∧ (True))) (by kernel_rfl) ⟨trivial, ⟨trivial, trivial⟩⟩

/-! plugtree/pluglaw.DescTexts -/
def F6 (n : Nat) (s : List UInt8) (t : List UInt8) : Option Bool := ((F16 n s).bind fun y_2 => ((F17 n s).bind fun y_3 => ((F18 n t).bind fun y_4 => ((F19 n t).bind fun y_5 => (bif (y_2.1 == y_3.1) then (bif (y_2.2 == y_3.2) then (bif (y_4.1 == y_5.1) then (some (y_4.2 == y_5.2)) else (some false)) else (some false)) else (some false))))))
theorem F6_ok (n : Nat) (s : List UInt8) (t : List UInt8) (r : Bool) (h : F6 n s t = some r) : PureC Try.prog 6 [(.str s), (.str t)] (.bool r) [] := by
  refine PureC.mkS Try.func6 rfl rfl ?_
  intro w0 fz0 hfz
  replace h : ((F16 n s).bind fun y_2 => ((F17 n s).bind fun y_3 => ((F18 n t).bind fun y_4 => ((F19 n t).bind fun y_5 => (bif (y_2.1 == y_3.1) then (bif (y_2.2 == y_3.2) then (bif (y_4.1 == y_5.1) then (some (y_4.2 == y_5.2)) else (some false)) else (some false)) else (some false)))))) = some r := h
  refine TS.seq ?_
  have hq : (True) ∧ (True) := ⟨trivial, trivial⟩
  refine TS.reg [] ?_ ?_
  · apply prop_of ?_ hq
    kernel_rfl
  refine XS.then ?_
  refine TS.seq ?_
  obtain ⟨y_2, hx1, h⟩ := bind_some' h
  have hq : (True) ∧ ((PureC Try.prog 16 [(.str s)] (.tup (.cons (.str y_2.1) (.cons (.int .i64 y_2.2) .nil))) []) ∧ ((True) ∧ ((True) ∧ ((True) ∧ ((True) ∧ ((True) ∧ (True))))))) := ⟨trivial, ⟨F16_ok n s y_2 hx1, ⟨trivial, ⟨trivial, ⟨trivial, ⟨trivial, ⟨trivial, trivial⟩⟩⟩⟩⟩⟩⟩
  refine TS.reg [.none, (.call (.tup (.cons (.str y_2.1) (.cons (.int .i64 y_2.2) .nil))) [])] ?_ ?_
  · apply prop_of ?_ hq
    kernel_rfl
  refine XS.then ?_
  refine TS.seq ?_
  obtain ⟨y_3, hx2, h⟩ := bind_some' h
  have hq : (True) ∧ ((PureC Try.prog 17 [(.str s)] (.tup (.cons (.str y_3.1) (.cons (.int .i64 y_3.2) .nil))) []) ∧ ((True) ∧ ((True) ∧ ((True) ∧ ((True) ∧ ((True) ∧ (True))))))) := ⟨trivial, ⟨F17_ok n s y_3 hx2, ⟨trivial, ⟨trivial, ⟨trivial, ⟨trivial, ⟨trivial, trivial⟩⟩⟩⟩⟩⟩⟩
  refine TS.reg [.none, (.call (.tup (.cons (.str y_3.1) (.cons (.int .i64 y_3.2) .nil))) [])] ?_ ?_
  · apply prop_of ?_ hq
    kernel_rfl
  refine XS.then ?_
  refine TS.seq ?_
  obtain ⟨y_4, hx3, h⟩ := bind_some' h
  have hq : (True) ∧ ((PureC Try.prog 18 [(.str t)] (.tup (.cons (.str y_4.1) (.cons (.int .i64 y_4.2) .nil))) []) ∧ ((True) ∧ ((True) ∧ ((True) ∧ ((True) ∧ ((True) ∧ (True))))))) := ⟨trivial, ⟨F18_ok n t y_4 hx3, ⟨trivial, ⟨trivial, ⟨trivial, ⟨trivial, ⟨trivial, trivial⟩⟩⟩⟩⟩⟩⟩
  refine TS.reg [.none, (.call (.tup (.cons (.str y_4.1) (.cons (.int .i64 y_4.2) .nil))) [])] ?_ ?_
  · apply prop_of ?_ hq
    kernel_rfl
  refine XS.then ?_
  refine TS.seq ?_
  obtain ⟨y_5, hx4, h⟩ := bind_some' h
  have hq : (True) ∧ ((PureC Try.prog 19 [(.str t)] (.tup (.cons (.str y_5.1) (.cons (.int .i64 y_5.2) .nil))) []) ∧ ((True) ∧ ((True) ∧ ((True) ∧ ((True) ∧ ((True) ∧ (True))))))) := ⟨trivial, ⟨F19_ok n t y_5 hx4, ⟨trivial, ⟨trivial, ⟨trivial, ⟨trivial, ⟨trivial, trivial⟩⟩⟩⟩⟩⟩⟩
  refine TS.reg [.none, (.call (.tup (.cons (.str y_5.1) (.cons (.int .i64 y_5.2) .nil))) [])] ?_ ?_
  · apply prop_of ?_ hq
    kernel_rfl
  refine XS.then ?_
  refine TS.seq ?_
  rcases bif_some h with ⟨c5, h⟩ | ⟨c6, h⟩
  · rcases bif_some h with ⟨c7, h⟩ | ⟨c8, h⟩
    · rcases bif_some h with ⟨c9, h⟩ | ⟨c10, h⟩
      · have hq : (True) ∧ ((True) ∧ ((True) ∧ (((True) ∧ (y_2.1 == y_3.1) = true) ∧ ((True) ∧ ((True) ∧ ((True) ∧ ((True) ∧ (((True) ∧ (y_2.2 == y_3.2) = true) ∧ ((True) ∧ ((True) ∧ ((True) ∧ ((True) ∧ (((True) ∧ (y_4.1 == y_5.1) = true) ∧ ((True) ∧ ((True) ∧ ((True) ∧ ((True) ∧ ((True) ∧ (True))))))))))))))))))) := ⟨trivial, ⟨trivial, ⟨trivial, ⟨⟨trivial, c5⟩, ⟨trivial, ⟨trivial, ⟨trivial, ⟨trivial, ⟨⟨trivial, c7⟩, ⟨trivial, ⟨trivial, ⟨trivial, ⟨trivial, ⟨⟨trivial, c9⟩, ⟨trivial, ⟨trivial, ⟨trivial, ⟨trivial, ⟨trivial, trivial⟩⟩⟩⟩⟩⟩⟩⟩⟩⟩⟩⟩⟩⟩⟩⟩⟩⟩⟩
        refine TS.reg [.none, .none, .none, .dec true, .none, .none, .none, .none, .dec true, .none, .none, .none, .none, .dec true] ?_ ?_
        · apply prop_of ?_ hq
          kernel_rfl
        refine XS.then ?_
        refine TS.ret ?_
        obtain rfl : (y_4.2 == y_5.2) = r := Option.some.inj h
        exact XS.fin [] ((True) ∧ (True)) (by kernel_rfl) ⟨trivial, trivial⟩
      · have hq : (True) ∧ ((True) ∧ ((True) ∧ (((True) ∧ (y_2.1 == y_3.1) = true) ∧ ((True) ∧ ((True) ∧ ((True) ∧ ((True) ∧ (((True) ∧ (y_2.2 == y_3.2) = true) ∧ ((True) ∧ ((True) ∧ ((True) ∧ ((True) ∧ (((True) ∧ (y_4.1 == y_5.1) = false) ∧ ((True) ∧ ((True) ∧ (True)))))))))))))))) := ⟨trivial, ⟨trivial, ⟨trivial, ⟨⟨trivial, c5⟩, ⟨trivial, ⟨trivial, ⟨trivial, ⟨trivial, ⟨⟨trivial, c7⟩, ⟨trivial, ⟨trivial, ⟨trivial, ⟨trivial, ⟨⟨trivial, c10⟩, ⟨trivial, ⟨trivial, trivial⟩⟩⟩⟩⟩⟩⟩⟩⟩⟩⟩⟩⟩⟩⟩⟩
        refine TS.reg [.none, .none, .none, .dec true, .none, .none, .none, .none, .dec true, .none, .none, .none, .none, .dec false] ?_ ?_
        · apply prop_of ?_ hq
          kernel_rfl
        refine XS.then ?_
        refine TS.ret ?_
        obtain rfl : false = r := Option.some.inj h
        exact XS.fin [] ((True) ∧ (True)) (by kernel_rfl) ⟨trivial, trivial⟩
    · have hq : (True) ∧ ((True) ∧ ((True) ∧ (((True) ∧ (y_2.1 == y_3.1) = true) ∧ ((True) ∧ ((True) ∧ ((True) ∧ ((True) ∧ (((True) ∧ (y_2.2 == y_3.2) = false) ∧ ((True) ∧ ((True) ∧ ((True) ∧ ((True) ∧ (True))))))))))))) := ⟨trivial, ⟨trivial, ⟨trivial, ⟨⟨trivial, c5⟩, ⟨trivial, ⟨trivial, ⟨trivial, ⟨trivial, ⟨⟨trivial, c8⟩, ⟨trivial, ⟨trivial, ⟨trivial, ⟨trivial, trivial⟩⟩⟩⟩⟩⟩⟩⟩⟩⟩⟩⟩⟩
      refine TS.reg [.none, .none, .none, .dec true, .none, .none, .none, .none, .dec false] ?_ ?_
      · apply prop_of ?_ hq
        kernel_rfl
      refine XS.then ?_
      refine TS.ret ?_
      obtain rfl : false = r := Option.some.inj h
      exact XS.fin [] ((True) ∧ (True)) (by kernel_rfl) ⟨trivial, trivial⟩
  · have hq : (True) ∧ ((True) ∧ ((True) ∧ (((True) ∧ (y_2.1 == y_3.1) = false) ∧ ((True) ∧ ((True) ∧ ((True) ∧ ((True) ∧ ((True) ∧ ((True) ∧ (True)))))))))) := ⟨trivial, ⟨trivial, ⟨trivial, ⟨⟨trivial, c6⟩, ⟨trivial, ⟨trivial, ⟨trivial, ⟨trivial, ⟨trivial, ⟨trivial, trivial⟩⟩⟩⟩⟩⟩⟩⟩⟩⟩
    refine TS.reg [.none, .none, .none, .dec false] ?_ ?_
    · apply prop_of ?_ hq
      kernel_rfl
    refine XS.then ?_
    refine TS.ret ?_
    obtain rfl : false = r := Option.some.inj h
    exact XS.fin [] ((True) ∧ (True)) (by kernel_rfl) ⟨trivial, trivial⟩
end Go.Proofs.Ytcdighmioekeiaa
