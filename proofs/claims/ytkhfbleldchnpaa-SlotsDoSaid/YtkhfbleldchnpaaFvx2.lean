/- Functions of the program, as functions of values. -/
import Derived.Test.YtkhfbleldchnpaaFvx1
import Derived.Test.YtkhfbleldchnpaaChecked
namespace Go.Proofs.Ytkhfbleldchnpaa
open Go Go.RowKit
set_option linter.unusedVariables false
set_option maxRecDepth 100000

theorem F21_ok (n : Nat) (b_Slots : List (Int × Int × (List Int) × List Int)) (c_Kind : Int) (c_Slot : Int) (c_End : Int) (c_Arg : Int) (r : (List (Int × Int × (List Int) × List Int)) × Int × Int) (h : F21 n b_Slots c_Kind c_Slot c_End c_Arg = some r) : PureC Try.prog 21 [(.st (.arr 9 (.st (.pair (.int .i64) (.pair (.int .i64) (.pair (.arr 32 (.int .i64)) (.arr 32 (.int .i64)))))) b_Slots)), (.st (.cons (.int .i64 c_Kind) (.cons (.int .i64 c_Slot) (.cons (.int .i64 c_End) (.int .i64 c_Arg)))))] (.tup (.cons (.st (.arr 9 (.st (.pair (.int .i64) (.pair (.int .i64) (.pair (.arr 32 (.int .i64)) (.arr 32 (.int .i64)))))) r.1)) (.cons (.int .i64 r.2.1) (.cons (.int .i64 r.2.2) .nil)))) [] := by
  refine PureC.mkS Try.func21 rfl rfl ?_
  intro w0 fz0 hfz
  replace h : ((F23 n b_Slots).bind fun y_4 => (bif (y_4 != (0 : Int)) then (some (b_Slots, (0 : Int), (0 : Int))) else (bif (c_Kind == (1 : Int)) then (some (b_Slots, (1 : Int), (0 : Int))) else (bif (c_Kind == (2 : Int)) then (loopF (F21_l49 n b_Slots) n (1 : Int)) else (bif (decide (c_Kind < (1 : Int))) then (F21_j50 n b_Slots c_Kind c_Slot c_End c_Arg true) else (bif (decide (c_Kind > (9 : Int))) then (F21_j50 n b_Slots c_Kind c_Slot c_End c_Arg true) else (bif (decide (c_Slot < (1 : Int))) then (F21_j50 n b_Slots c_Kind c_Slot c_End c_Arg true) else (F21_j50 n b_Slots c_Kind c_Slot c_End c_Arg (decide (c_Slot > (8 : Int))))))))))) = some r := h
  refine TS.seq ?_
  have hq : (True) ∧ ((True) ∧ ((True) ∧ ((True) ∧ ((True) ∧ (True))))) := ⟨trivial, ⟨trivial, ⟨trivial, ⟨trivial, ⟨trivial, trivial⟩⟩⟩⟩⟩
  refine TS.reg [] ?_ ?_
  · apply prop_of ?_ hq
    kernel_rfl
  refine XS.then ?_
  refine TS.seq ?_
  refine TS.seq ?_
  obtain ⟨y_4, hx1, h⟩ := bind_some' h
  have hq : (True) ∧ ((PureC Try.prog 23 [(.st (.arr 9 (.st (.pair (.int .i64) (.pair (.int .i64) (.pair (.arr 32 (.int .i64)) (.arr 32 (.int .i64)))))) b_Slots))] (.int .i64 y_4) []) ∧ ((True) ∧ (True))) := ⟨trivial, ⟨F23_ok n b_Slots y_4 hx1, ⟨trivial, trivial⟩⟩⟩
  refine TS.reg [.none, (.call (.int .i64 y_4) [])] ?_ ?_
  · apply prop_of ?_ hq
    kernel_rfl
  refine XS.then ?_
  rcases bif_some h with ⟨c2, h⟩ | ⟨c3, h⟩
  · refine TS.cond (y_4 != (0 : Int)) ?_ (fun e => ?_) (fun e => by rw [c2] at e; cases e)
    · kernel_rfl
    refine TS.seq ?_
    have hq : (True) ∧ ((True) ∧ ((True) ∧ ((True) ∧ (True)))) := ⟨trivial, ⟨trivial, ⟨trivial, ⟨trivial, trivial⟩⟩⟩⟩
    refine TS.reg [] ?_ ?_
    · apply prop_of ?_ hq
      kernel_rfl
    refine XS.then ?_
    refine TS.ret ?_
    refine XS.passR ?_
    obtain rfl : (b_Slots, (0 : Int), (0 : Int)) = r := Option.some.inj h
    exact XS.fin [] ((True) ∧ ((True) ∧ ((True) ∧ (True)))) (by kernel_rfl) ⟨trivial, ⟨trivial, ⟨trivial, trivial⟩⟩⟩
  · refine TS.cond (y_4 != (0 : Int)) ?_ (fun e => by rw [c3] at e; cases e) (fun e => ?_)
    · kernel_rfl
    refine TS.skip ?_
    refine XS.then ?_
    refine TS.seq ?_
    have hq : (True) ∧ ((True) ∧ ((True) ∧ (True))) := ⟨trivial, ⟨trivial, ⟨trivial, trivial⟩⟩⟩
    refine TS.reg [] ?_ ?_
    · apply prop_of ?_ hq
      kernel_rfl
    refine XS.then ?_
    refine TS.seq ?_
    refine TS.block ?_
    refine TS.seq ?_
    have hq : (True) ∧ ((True) ∧ ((True) ∧ ((True) ∧ (True)))) := ⟨trivial, ⟨trivial, ⟨trivial, ⟨trivial, trivial⟩⟩⟩⟩
    refine TS.reg [] ?_ ?_
    · apply prop_of ?_ hq
      kernel_rfl
    refine XS.then ?_
    rcases bif_some h with ⟨c4, h⟩ | ⟨c5, h⟩
    · refine TS.cond (c_Kind == (1 : Int)) ?_ (fun e => ?_) (fun e => by rw [c4] at e; cases e)
      · kernel_rfl
      refine TS.seq ?_
      have hq : (True) ∧ ((True) ∧ ((True) ∧ ((True) ∧ (True)))) := ⟨trivial, ⟨trivial, ⟨trivial, ⟨trivial, trivial⟩⟩⟩⟩
      refine TS.reg [] ?_ ?_
      · apply prop_of ?_ hq
        kernel_rfl
      refine XS.then ?_
      refine TS.ret ?_
      refine XS.blockRet ?_
      refine XS.passR ?_
      obtain rfl : (b_Slots, (1 : Int), (0 : Int)) = r := Option.some.inj h
      exact XS.fin [] ((True) ∧ ((True) ∧ ((True) ∧ (True)))) (by kernel_rfl) ⟨trivial, ⟨trivial, ⟨trivial, trivial⟩⟩⟩
    · refine TS.cond (c_Kind == (1 : Int)) ?_ (fun e => by rw [c5] at e; cases e) (fun e => ?_)
      · kernel_rfl
      refine TS.seq ?_
      have hq : (True) ∧ ((True) ∧ ((True) ∧ ((True) ∧ (True)))) := ⟨trivial, ⟨trivial, ⟨trivial, ⟨trivial, trivial⟩⟩⟩⟩
      refine TS.reg [] ?_ ?_
      · apply prop_of ?_ hq
        kernel_rfl
      refine XS.then ?_
      rcases bif_some h with ⟨c6, h⟩ | ⟨c7, h⟩
      · refine TS.cond (c_Kind == (2 : Int)) ?_ (fun e => ?_) (fun e => by rw [c6] at e; cases e)
        · kernel_rfl
        refine TS.seq ?_
        refine TS.opsOf ?_
        refine TOS.callJ (D := Int × Int × (List (Int × Int × (List Int) × List Int))) (fun d => match d with | (x, x_2, m1) => (mkTs 95 [(4, (.ptr 0 [])), (7, (.ptr 1 [])), (27, (.tup (.cons (.int .i64 x) (.cons (.int .i64 x_2) .nil))))], [(.box 36 (.st (.arr 9 (.st (.pair (.int .i64) (.pair (.int .i64) (.pair (.arr 32 (.int .i64)) (.arr 32 (.int .i64)))))) (List.replicate 9 ((0 : Int), ((0 : Int), ((List.replicate 32 (0 : Int)), (List.replicate 32 (0 : Int))))))))), (.box 36 (.st (.arr 9 (.st (.pair (.int .i64) (.pair (.int .i64) (.pair (.arr 32 (.int .i64)) (.arr 32 (.int .i64)))))) m1)))])) (fun d => F21_j48 n d = some r) 61 (mkMask 95 [4, 7]) Try.func61 rfl ?_ ?_
        · rintro ⟨x, x_2, m1⟩ h
          replace h : (some (m1, x, x_2)) = some r := h
          have hq : (True) ∧ ((True) ∧ ((True) ∧ ((True) ∧ ((True) ∧ (True))))) := ⟨trivial, ⟨trivial, ⟨trivial, ⟨trivial, ⟨trivial, trivial⟩⟩⟩⟩⟩
          refine TOS.run 5 [] (by kernel_rfl) ?_ ?_
          · apply prop_of ?_ hq
            kernel_rfl
          refine TOS.nil (by kernel_rfl) ?_
          refine XS.then ?_
          refine TS.seq ?_
          have hq : (True) ∧ ((True) ∧ ((True) ∧ ((True) ∧ ((True) ∧ ((True) ∧ (True)))))) := ⟨trivial, ⟨trivial, ⟨trivial, ⟨trivial, ⟨trivial, ⟨trivial, trivial⟩⟩⟩⟩⟩⟩
          refine TS.reg [] ?_ ?_
          · apply prop_of ?_ hq
            kernel_rfl
          refine XS.then ?_
          refine TS.ret ?_
          refine XS.blockRet ?_
          refine XS.passR ?_
          obtain rfl : (m1, x, x_2) = r := Option.some.inj h
          exact XS.fin [] ((True) ∧ ((True) ∧ ((True) ∧ (True)))) (by kernel_rfl) ⟨trivial, ⟨trivial, ⟨trivial, trivial⟩⟩⟩
        · intro fv8
          refine ⟨(mkTs 24 [(0, (.ptr 3 []))], [(.box 36 (.st (.arr 9 (.st (.pair (.int .i64) (.pair (.int .i64) (.pair (.arr 32 (.int .i64)) (.arr 32 (.int .i64)))))) b_Slots))), (.box 23 (.st (.cons (.int .i64 c_Kind) (.cons (.int .i64 c_Slot) (.cons (.int .i64 c_End) (.int .i64 c_Arg)))))), (.box 36 (.st (.arr 9 (.st (.pair (.int .i64) (.pair (.int .i64) (.pair (.arr 32 (.int .i64)) (.arr 32 (.int .i64)))))) (List.replicate 9 ((0 : Int), ((0 : Int), ((List.replicate 32 (0 : Int)), (List.replicate 32 (0 : Int))))))))), (.box 36 (.st (.arr 9 (.st (.pair (.int .i64) (.pair (.int .i64) (.pair (.arr 32 (.int .i64)) (.arr 32 (.int .i64)))))) b_Slots))), (.sav (mkTs 95 [(4, (.ptr 2 [])), (7, (.ptr 3 []))]) fv8)]), by kernel_rfl, ?_⟩
          refine TS.seq ?_
          have hq : (True) ∧ ((True) ∧ (True)) := ⟨trivial, ⟨trivial, trivial⟩⟩
          refine TS.reg [] ?_ ?_
          · apply prop_of ?_ hq
            kernel_rfl
          refine XS.then ?_
          refine TS.seq ?_
          refine TS.seq ?_
          have hq : (True) ∧ (True) := ⟨trivial, trivial⟩
          refine TS.reg [] ?_ ?_
          · apply prop_of ?_ hq
            kernel_rfl
          refine XS.then ?_
          refine TS.block ?_
          refine TS.reLoop [4, 2, 3] (mkMask 24 [0, 4]) (D := Int) (fun d => match d with | x_3 => (mkTs 24 [(0, (.ptr 2 [])), (4, (.int .i64 x_3))], [(.sav (mkTs 95 [(4, (.ptr 1 [])), (7, (.ptr 2 []))]) fv8), (.box 36 (.st (.arr 9 (.st (.pair (.int .i64) (.pair (.int .i64) (.pair (.arr 32 (.int .i64)) (.arr 32 (.int .i64)))))) (List.replicate 9 ((0 : Int), ((0 : Int), ((List.replicate 32 (0 : Int)), (List.replicate 32 (0 : Int))))))))), (.box 36 (.st (.arr 9 (.st (.pair (.int .i64) (.pair (.int .i64) (.pair (.arr 32 (.int .i64)) (.arr 32 (.int .i64)))))) b_Slots)))])) (fun n' d => loopF (F21_l49 n b_Slots) n' d = some r) n (1 : Int) h ?_ (fun d => loopF_zero _ d r) ?_
          · kernel_rfl
          · rintro n49 x_3 h
            replace h : (bif (decide (x_3 < (9 : Int))) then (bif inb x_3 9 then (bif ((b_Slots.getD x_3.toNat ((0 : Int), ((0 : Int), ((List.replicate 32 (0 : Int)), (List.replicate 32 (0 : Int)))))).1 == (0 : Int)) then (F21_j48 n ((1 : Int), x_3, (b_Slots.set x_3.toNat ((1 : Int), ((b_Slots.getD x_3.toNat ((0 : Int), ((0 : Int), ((List.replicate 32 (0 : Int)), (List.replicate 32 (0 : Int)))))).2.1, ((b_Slots.getD x_3.toNat ((0 : Int), ((0 : Int), ((List.replicate 32 (0 : Int)), (List.replicate 32 (0 : Int)))))).2.2.1, (b_Slots.getD x_3.toNat ((0 : Int), ((0 : Int), ((List.replicate 32 (0 : Int)), (List.replicate 32 (0 : Int)))))).2.2.2)))))) else ((loopF (F21_l49 n b_Slots) n49) (IntKind.wrap .i64 (x_3 + (1 : Int))))) else none) else (F21_j48 n ((9 : Int), (0 : Int), b_Slots))) = some r := h
            refine TS.seq ?_
            refine TS.seq ?_
            have hq : (True) ∧ ((True) ∧ (True)) := ⟨trivial, ⟨trivial, trivial⟩⟩
            refine TS.reg [] ?_ ?_
            · apply prop_of ?_ hq
              kernel_rfl
            refine XS.then ?_
            rcases bif_some h with ⟨c8, h⟩ | ⟨c9, h⟩
            · refine TS.cond (decide (x_3 < (9 : Int))) ?_ (fun e => ?_) (fun e => by rw [c8] at e; cases e)
              · kernel_rfl
              refine TS.skip ?_
              refine XS.then ?_
              refine TS.seq ?_
              refine TS.block ?_
              refine TS.seq ?_
              obtain ⟨t10, h⟩ := test_some h
              have hq : (True) ∧ ((True) ∧ ((True) ∧ ((True) ∧ ((inR x_3 9) ∧ ((True) ∧ ((x_3.toNat < 9 ∧ (True)) ∧ ((True) ∧ (True)))))))) := ⟨trivial, ⟨trivial, ⟨trivial, ⟨trivial, ⟨inb_ok t10, ⟨trivial, ⟨⟨inR_lt (inb_ok t10), trivial⟩, ⟨trivial, trivial⟩⟩⟩⟩⟩⟩⟩⟩
              refine TS.reg [] ?_ ?_
              · apply prop_of ?_ hq
                kernel_rfl
              refine XS.then ?_
              rcases bif_some h with ⟨c11, h⟩ | ⟨c12, h⟩
              · refine TS.cond ((b_Slots.getD x_3.toNat ((0 : Int), ((0 : Int), ((List.replicate 32 (0 : Int)), (List.replicate 32 (0 : Int)))))).1 == (0 : Int)) ?_ (fun e => ?_) (fun e => by rw [c11] at e; cases e)
                · kernel_rfl
                refine TS.seq ?_
                have hq : (True) ∧ ((True) ∧ ((True) ∧ ((True) ∧ ((inR x_3 9) ∧ ((True) ∧ ((x_3.toNat < 9 ∧ (True)) ∧ (True))))))) := ⟨trivial, ⟨trivial, ⟨trivial, ⟨trivial, ⟨inb_ok t10, ⟨trivial, ⟨⟨inR_lt (inb_ok t10), trivial⟩, trivial⟩⟩⟩⟩⟩⟩⟩
                refine TS.reg [] ?_ ?_
                · apply prop_of ?_ hq
                  kernel_rfl
                refine XS.then ?_
                refine TS.seq ?_
                have hq : (True) ∧ ((True) ∧ ((True) ∧ (True))) := ⟨trivial, ⟨trivial, ⟨trivial, trivial⟩⟩⟩
                refine TS.reg [] ?_ ?_
                · apply prop_of ?_ hq
                  kernel_rfl
                refine XS.then ?_
                refine TS.ret ?_
                refine XS.blockRet ?_
                refine XS.passR ?_
                refine XS.passR ?_
                refine XS.blockRet ?_
                refine XS.passR ?_
                refine XS.backR 0 (mkTs 95 [(4, (.ptr 1 [])), (7, (.ptr 2 []))]) (mkTs 95 [(4, (.ptr 1 [])), (7, (.ptr 2 [])), (27, (.tup (.cons (.int .i64 (1 : Int)) (.cons (.int .i64 x_3) .nil))))], [.dead, (.box 36 (.st (.arr 9 (.st (.pair (.int .i64) (.pair (.int .i64) (.pair (.arr 32 (.int .i64)) (.arr 32 (.int .i64)))))) (List.replicate 9 ((0 : Int), ((0 : Int), ((List.replicate 32 (0 : Int)), (List.replicate 32 (0 : Int))))))))), (.box 36 (.st (.arr 9 (.st (.pair (.int .i64) (.pair (.int .i64) (.pair (.arr 32 (.int .i64)) (.arr 32 (.int .i64)))))) (b_Slots.set x_3.toNat ((1 : Int), ((b_Slots.getD x_3.toNat ((0 : Int), ((0 : Int), ((List.replicate 32 (0 : Int)), (List.replicate 32 (0 : Int)))))).2.1, ((b_Slots.getD x_3.toNat ((0 : Int), ((0 : Int), ((List.replicate 32 (0 : Int)), (List.replicate 32 (0 : Int)))))).2.2.1, (b_Slots.getD x_3.toNat ((0 : Int), ((0 : Int), ((List.replicate 32 (0 : Int)), (List.replicate 32 (0 : Int)))))).2.2.2)))))))]) ((True) ∧ ((True) ∧ (True))) (by kernel_rfl) (by kernel_rfl) ⟨trivial, ⟨trivial, trivial⟩⟩ ?_
                refine KS.ofX ?_
                refine XS.reAny [1, 2] (mkMask 95 [4, 7, 27]) ((1 : Int), x_3, (b_Slots.set x_3.toNat ((1 : Int), ((b_Slots.getD x_3.toNat ((0 : Int), ((0 : Int), ((List.replicate 32 (0 : Int)), (List.replicate 32 (0 : Int)))))).2.1, ((b_Slots.getD x_3.toNat ((0 : Int), ((0 : Int), ((List.replicate 32 (0 : Int)), (List.replicate 32 (0 : Int)))))).2.2.1, (b_Slots.getD x_3.toNat ((0 : Int), ((0 : Int), ((List.replicate 32 (0 : Int)), (List.replicate 32 (0 : Int)))))).2.2.2))))) h ?_
                kernel_rfl
              · refine TS.cond ((b_Slots.getD x_3.toNat ((0 : Int), ((0 : Int), ((List.replicate 32 (0 : Int)), (List.replicate 32 (0 : Int)))))).1 == (0 : Int)) ?_ (fun e => by rw [c12] at e; cases e) (fun e => ?_)
                · kernel_rfl
                refine TS.skip ?_
                refine XS.blockEnd ?_
                refine XS.then ?_
                have hq : (True) ∧ ((True) ∧ ((True) ∧ (True))) := ⟨trivial, ⟨trivial, ⟨trivial, trivial⟩⟩⟩
                refine TS.reg [] ?_ ?_
                · apply prop_of ?_ hq
                  kernel_rfl
                refine XS.reAny [0, 1, 2] (mkMask 24 [0, 4]) (IntKind.wrap .i64 (x_3 + (1 : Int))) h ?_
                kernel_rfl
            · refine TS.cond (decide (x_3 < (9 : Int))) ?_ (fun e => by rw [c9] at e; cases e) (fun e => ?_)
              · kernel_rfl
              refine TS.exit ?_
              refine XS.passE ?_
              refine XS.passE ?_
              refine XS.out ?_
              refine XS.then ?_
              refine TS.seq ?_
              have hq : (True) ∧ ((True) ∧ (True)) := ⟨trivial, ⟨trivial, trivial⟩⟩
              refine TS.reg [] ?_ ?_
              · apply prop_of ?_ hq
                kernel_rfl
              refine XS.then ?_
              refine TS.ret ?_
              refine XS.backR 0 (mkTs 95 [(4, (.ptr 1 [])), (7, (.ptr 2 []))]) (mkTs 95 [(4, (.ptr 1 [])), (7, (.ptr 2 [])), (27, (.tup (.cons (.int .i64 (9 : Int)) (.cons (.int .i64 (0 : Int)) .nil))))], [.dead, (.box 36 (.st (.arr 9 (.st (.pair (.int .i64) (.pair (.int .i64) (.pair (.arr 32 (.int .i64)) (.arr 32 (.int .i64)))))) (List.replicate 9 ((0 : Int), ((0 : Int), ((List.replicate 32 (0 : Int)), (List.replicate 32 (0 : Int))))))))), (.box 36 (.st (.arr 9 (.st (.pair (.int .i64) (.pair (.int .i64) (.pair (.arr 32 (.int .i64)) (.arr 32 (.int .i64)))))) b_Slots)))]) ((True) ∧ ((True) ∧ (True))) (by kernel_rfl) (by kernel_rfl) ⟨trivial, ⟨trivial, trivial⟩⟩ ?_
              refine KS.ofX ?_
              refine XS.reAny [1, 2] (mkMask 95 [4, 7, 27]) ((9 : Int), (0 : Int), b_Slots) h ?_
              kernel_rfl
      · refine TS.cond (c_Kind == (2 : Int)) ?_ (fun e => by rw [c7] at e; cases e) (fun e => ?_)
        · kernel_rfl
        refine TS.seq ?_
        refine TS.cut (D := Bool) (fun d => match d with | x_4 => (mkTs 95 [(2, (.ptr 0 [])), (3, (.ptr 1 [])), (4, (.ptr 2 [])), (7, (.ptr 3 [])), (33, (.bool x_4))], [(.box 36 (.st (.arr 9 (.st (.pair (.int .i64) (.pair (.int .i64) (.pair (.arr 32 (.int .i64)) (.arr 32 (.int .i64)))))) b_Slots))), (.box 23 (.st (.cons (.int .i64 c_Kind) (.cons (.int .i64 c_Slot) (.cons (.int .i64 c_End) (.int .i64 c_Arg)))))), (.box 36 (.st (.arr 9 (.st (.pair (.int .i64) (.pair (.int .i64) (.pair (.arr 32 (.int .i64)) (.arr 32 (.int .i64)))))) (List.replicate 9 ((0 : Int), ((0 : Int), ((List.replicate 32 (0 : Int)), (List.replicate 32 (0 : Int))))))))), (.box 36 (.st (.arr 9 (.st (.pair (.int .i64) (.pair (.int .i64) (.pair (.arr 32 (.int .i64)) (.arr 32 (.int .i64)))))) b_Slots)))])) (fun d => F21_j50 n b_Slots c_Kind c_Slot c_End c_Arg d = some r) ?_ ?_
        · rintro x_4 h
          replace h : (bif x_4 then (some (b_Slots, (5 : Int), (0 : Int))) else (bif inb c_Slot 9 then (bif ((b_Slots.getD c_Slot.toNat ((0 : Int), ((0 : Int), ((List.replicate 32 (0 : Int)), (List.replicate 32 (0 : Int)))))).1 == (0 : Int)) then (F21_j71 n b_Slots c_Slot ((11 : Int), b_Slots)) else (bif (c_Kind == (3 : Int)) then (F21_j71 n b_Slots c_Slot ((1 : Int), (b_Slots.set c_Slot.toNat ((0 : Int), ((0 : Int), ((List.replicate 32 (0 : Int)), (List.replicate 32 (0 : Int)))))))) else (bif (c_Kind == (4 : Int)) then (bif ((b_Slots.getD c_Slot.toNat ((0 : Int), ((0 : Int), ((List.replicate 32 (0 : Int)), (List.replicate 32 (0 : Int)))))).1 != (1 : Int)) then (F21_j71 n b_Slots c_Slot ((19 : Int), b_Slots)) else (loopF (F21_l79 n b_Slots c_Slot) n ((1 : Int), true))) else (bif (c_Kind == (5 : Int)) then (bif (decide (c_Arg < (0 : Int))) then (F21_j83 n b_Slots c_Slot c_Arg true) else (bif (decide (c_Arg ≥ (4294967296 : Int))) then (F21_j83 n b_Slots c_Slot c_Arg true) else (F21_j83 n b_Slots c_Slot c_Arg ((bitsI .and .i64 c_Arg (3 : Int)) != (0 : Int))))) else (bif (decide (c_End < (1 : Int))) then (F21_j71 n b_Slots c_Slot ((5 : Int), b_Slots)) else (bif (decide (c_End > (31 : Int))) then (F21_j71 n b_Slots c_Slot ((5 : Int), b_Slots)) else (bif inb c_End 32 then (bif ((((b_Slots.getD c_Slot.toNat ((0 : Int), ((0 : Int), ((List.replicate 32 (0 : Int)), (List.replicate 32 (0 : Int)))))).2.2.1).getD c_End.toNat (0 : Int)) == (0 : Int)) then (F21_j71 n b_Slots c_Slot ((12 : Int), b_Slots)) else (bif (c_Kind == (6 : Int)) then (bif ((((b_Slots.getD c_Slot.toNat ((0 : Int), ((0 : Int), ((List.replicate 32 (0 : Int)), (List.replicate 32 (0 : Int)))))).2.2.1).getD c_End.toNat (0 : Int)) == (2 : Int)) then (F21_j89 n b_Slots c_Kind c_Slot c_End c_Arg ((((b_Slots.getD c_Slot.toNat ((0 : Int), ((0 : Int), ((List.replicate 32 (0 : Int)), (List.replicate 32 (0 : Int)))))).2.2.1).getD c_End.toNat (0 : Int)) == (2 : Int))) else (bif (c_Kind == (7 : Int)) then (F21_j89 n b_Slots c_Kind c_Slot c_End c_Arg ((((b_Slots.getD c_Slot.toNat ((0 : Int), ((0 : Int), ((List.replicate 32 (0 : Int)), (List.replicate 32 (0 : Int)))))).2.2.1).getD c_End.toNat (0 : Int)) == (1 : Int))) else (F21_j89 n b_Slots c_Kind c_Slot c_End c_Arg false))) else (bif (c_Kind == (7 : Int)) then (bif ((((b_Slots.getD c_Slot.toNat ((0 : Int), ((0 : Int), ((List.replicate 32 (0 : Int)), (List.replicate 32 (0 : Int)))))).2.2.1).getD c_End.toNat (0 : Int)) == (1 : Int)) then (F21_j71 n b_Slots c_Slot ((1 : Int), (b_Slots.set c_Slot.toNat ((b_Slots.getD c_Slot.toNat ((0 : Int), ((0 : Int), ((List.replicate 32 (0 : Int)), (List.replicate 32 (0 : Int)))))).1, ((b_Slots.getD c_Slot.toNat ((0 : Int), ((0 : Int), ((List.replicate 32 (0 : Int)), (List.replicate 32 (0 : Int)))))).2.1, ((((b_Slots.getD c_Slot.toNat ((0 : Int), ((0 : Int), ((List.replicate 32 (0 : Int)), (List.replicate 32 (0 : Int)))))).2.2.1).set c_End.toNat (3 : Int)), (b_Slots.getD c_Slot.toNat ((0 : Int), ((0 : Int), ((List.replicate 32 (0 : Int)), (List.replicate 32 (0 : Int)))))).2.2.2)))))) else (bif (c_Kind == (8 : Int)) then (bif (decide (c_Arg < (0 : Int))) then (F21_j91 n b_Slots c_Kind c_Slot c_End c_Arg true) else (F21_j91 n b_Slots c_Kind c_Slot c_End c_Arg (decide (c_Arg > (65535 : Int))))) else (F21_j91 n b_Slots c_Kind c_Slot c_End c_Arg false))) else (bif (c_Kind == (8 : Int)) then (bif (decide (c_Arg < (0 : Int))) then (F21_j92 n b_Slots c_Kind c_Slot c_End c_Arg true) else (F21_j92 n b_Slots c_Kind c_Slot c_End c_Arg (decide (c_Arg > (65535 : Int))))) else (F21_j92 n b_Slots c_Kind c_Slot c_End c_Arg false))))) else none))))))) else none)) = some r := h
          refine XS.then ?_
          rcases bif_some h with ⟨c13, h⟩ | ⟨c14, h⟩
          · refine TS.cond x_4 ?_ (fun e => ?_) (fun e => by rw [c13] at e; cases e)
            · kernel_rfl
            refine TS.seq ?_
            have hq : (True) ∧ ((True) ∧ ((True) ∧ ((True) ∧ (True)))) := ⟨trivial, ⟨trivial, ⟨trivial, ⟨trivial, trivial⟩⟩⟩⟩
            refine TS.reg [] ?_ ?_
            · apply prop_of ?_ hq
              kernel_rfl
            refine XS.then ?_
            refine TS.ret ?_
            refine XS.blockRet ?_
            refine XS.passR ?_
            obtain rfl : (b_Slots, (5 : Int), (0 : Int)) = r := Option.some.inj h
            exact XS.fin [] ((True) ∧ ((True) ∧ ((True) ∧ (True)))) (by kernel_rfl) ⟨trivial, ⟨trivial, ⟨trivial, trivial⟩⟩⟩
          · refine TS.cond x_4 ?_ (fun e => by rw [c14] at e; cases e) (fun e => ?_)
            · kernel_rfl
            refine TS.skip ?_
            refine XS.blockEnd ?_
            refine XS.then ?_
            refine TS.seq ?_
            obtain ⟨t15, h⟩ := test_some h
            have hq : (True) ∧ ((True) ∧ ((True) ∧ ((inR c_Slot 9) ∧ ((True) ∧ (True))))) := ⟨trivial, ⟨trivial, ⟨trivial, ⟨inb_ok t15, ⟨trivial, trivial⟩⟩⟩⟩⟩
            refine TS.reg [] ?_ ?_
            · apply prop_of ?_ hq
              kernel_rfl
            refine XS.then ?_
            refine TS.seq ?_
            have hq : (True) ∧ (True) := ⟨trivial, trivial⟩
            refine TS.reg [] ?_ ?_
            · apply prop_of ?_ hq
              kernel_rfl
            refine XS.then ?_
            refine TS.seq ?_
            refine TS.cut (D := Int × (List (Int × Int × (List Int) × List Int))) (fun d => match d with | (code, m3) => (mkTs 95 [(2, (.ptr 0 [])), (3, (.ptr 1 [])), (4, (.ptr 2 [])), (7, (.ptr 3 [])), (11, (.int .i64 code))], [(.box 36 (.st (.arr 9 (.st (.pair (.int .i64) (.pair (.int .i64) (.pair (.arr 32 (.int .i64)) (.arr 32 (.int .i64)))))) b_Slots))), (.box 23 (.st (.cons (.int .i64 c_Kind) (.cons (.int .i64 c_Slot) (.cons (.int .i64 c_End) (.int .i64 c_Arg)))))), (.box 36 (.st (.arr 9 (.st (.pair (.int .i64) (.pair (.int .i64) (.pair (.arr 32 (.int .i64)) (.arr 32 (.int .i64)))))) (List.replicate 9 ((0 : Int), ((0 : Int), ((List.replicate 32 (0 : Int)), (List.replicate 32 (0 : Int))))))))), (.box 36 (.st (.arr 9 (.st (.pair (.int .i64) (.pair (.int .i64) (.pair (.arr 32 (.int .i64)) (.arr 32 (.int .i64)))))) m3)))])) (fun d => F21_j71 n b_Slots c_Slot d = some r) ?_ ?_
            · rintro ⟨code, m3⟩ h
              replace h : (bif (code != (1 : Int)) then (F21_j72 n c_Slot code b_Slots) else (F21_j72 n c_Slot code m3)) = some r := h
              refine XS.then ?_
              refine TS.seq ?_
              refine TS.seq ?_
              have hq : (True) ∧ ((True) ∧ (True)) := ⟨trivial, ⟨trivial, trivial⟩⟩
              refine TS.reg [] ?_ ?_
              · apply prop_of ?_ hq
                kernel_rfl
              refine XS.then ?_
              refine TS.cut (D := List (Int × Int × (List Int) × List Int)) (fun d => match d with | m2 => (mkTs 95 [(3, (.ptr 0 [])), (4, (.ptr 1 [])), (7, (.ptr 2 [])), (11, (.int .i64 code))], [(.box 23 (.st (.cons (.int .i64 c_Kind) (.cons (.int .i64 c_Slot) (.cons (.int .i64 c_End) (.int .i64 c_Arg)))))), (.box 36 (.st (.arr 9 (.st (.pair (.int .i64) (.pair (.int .i64) (.pair (.arr 32 (.int .i64)) (.arr 32 (.int .i64)))))) (List.replicate 9 ((0 : Int), ((0 : Int), ((List.replicate 32 (0 : Int)), (List.replicate 32 (0 : Int))))))))), (.box 36 (.st (.arr 9 (.st (.pair (.int .i64) (.pair (.int .i64) (.pair (.arr 32 (.int .i64)) (.arr 32 (.int .i64)))))) m2)))])) (fun d => F21_j72 n c_Slot code d = some r) ?_ ?_
              · rintro m2 h
                replace h : (some (m2, code, c_Slot)) = some r := h
                refine XS.then ?_
                refine TS.seq ?_
                have hq : ((True) ∧ ((True) ∧ ((True) ∧ ((True) ∧ ((True) ∧ ((True) ∧ (True))))))) ∧ ((True) ∧ (True)) := ⟨⟨trivial, ⟨trivial, ⟨trivial, ⟨trivial, ⟨trivial, ⟨trivial, trivial⟩⟩⟩⟩⟩⟩, ⟨trivial, trivial⟩⟩
                refine TS.draw 6 [(4, 1)] [] (by kernel_rfl) ?_ ?_
                · apply prop_of ?_ hq
                  kernel_rfl
                refine XS.then ?_
                refine TS.ret ?_
                obtain rfl : (m2, code, c_Slot) = r := Option.some.inj h
                exact XS.fin [] ((True) ∧ ((True) ∧ ((True) ∧ (True)))) (by kernel_rfl) ⟨trivial, ⟨trivial, ⟨trivial, trivial⟩⟩⟩
              · rcases bif_some h with ⟨c16, h⟩ | ⟨c17, h⟩
                · refine TS.cond (code != (1 : Int)) ?_ (fun e => ?_) (fun e => by rw [c16] at e; cases e)
                  · kernel_rfl
                  have hq : (True) ∧ ((True) ∧ (True)) := ⟨trivial, ⟨trivial, trivial⟩⟩
                  refine TS.reg [] ?_ ?_
                  · apply prop_of ?_ hq
                    kernel_rfl
                  refine XS.reAny [1, 2, 3] (mkMask 95 [3, 4, 7, 11]) b_Slots h ?_
                  kernel_rfl
                · refine TS.cond (code != (1 : Int)) ?_ (fun e => by rw [c17] at e; cases e) (fun e => ?_)
                  · kernel_rfl
                  refine TS.skip ?_
                  refine XS.reAny [1, 2, 3] (mkMask 95 [3, 4, 7, 11]) m3 h ?_
                  kernel_rfl
            · refine TS.block ?_
              refine TS.seq ?_
              have hq : (True) ∧ ((True) ∧ ((True) ∧ ((c_Slot.toNat < 9 ∧ (True)) ∧ ((True) ∧ ((True) ∧ (True)))))) := ⟨trivial, ⟨trivial, ⟨trivial, ⟨⟨inR_lt (inb_ok t15), trivial⟩, ⟨trivial, ⟨trivial, trivial⟩⟩⟩⟩⟩⟩
              refine TS.reg [] ?_ ?_
              · apply prop_of ?_ hq
                kernel_rfl
              refine XS.then ?_
              rcases bif_some h with ⟨c18, h⟩ | ⟨c19, h⟩
              · refine TS.cond ((b_Slots.getD c_Slot.toNat ((0 : Int), ((0 : Int), ((List.replicate 32 (0 : Int)), (List.replicate 32 (0 : Int)))))).1 == (0 : Int)) ?_ (fun e => ?_) (fun e => by rw [c18] at e; cases e)
                · kernel_rfl
                have hq : (True) ∧ (True) := ⟨trivial, trivial⟩
                refine TS.reg [] ?_ ?_
                · apply prop_of ?_ hq
                  kernel_rfl
                refine XS.blockEnd ?_
                refine XS.reAny [0, 1, 2, 3] (mkMask 95 [2, 3, 4, 7, 11]) ((11 : Int), b_Slots) h ?_
                kernel_rfl
              · refine TS.cond ((b_Slots.getD c_Slot.toNat ((0 : Int), ((0 : Int), ((List.replicate 32 (0 : Int)), (List.replicate 32 (0 : Int)))))).1 == (0 : Int)) ?_ (fun e => by rw [c19] at e; cases e) (fun e => ?_)
                · kernel_rfl
                refine TS.seq ?_
                have hq : (True) ∧ ((True) ∧ ((True) ∧ ((True) ∧ (True)))) := ⟨trivial, ⟨trivial, ⟨trivial, ⟨trivial, trivial⟩⟩⟩⟩
                refine TS.reg [] ?_ ?_
                · apply prop_of ?_ hq
                  kernel_rfl
                refine XS.then ?_
                rcases bif_some h with ⟨c20, h⟩ | ⟨c21, h⟩
                · refine TS.cond (c_Kind == (3 : Int)) ?_ (fun e => ?_) (fun e => by rw [c20] at e; cases e)
                  · kernel_rfl
                  have hq : (True) ∧ ((True) ∧ ((True) ∧ ((c_Slot.toNat < 9 ∧ (True)) ∧ (True)))) := ⟨trivial, ⟨trivial, ⟨trivial, ⟨⟨inR_lt (inb_ok t15), trivial⟩, trivial⟩⟩⟩⟩
                  refine TS.reg [] ?_ ?_
                  · apply prop_of ?_ hq
                    kernel_rfl
                  refine XS.blockEnd ?_
                  refine XS.reAny [0, 1, 2, 3] (mkMask 95 [2, 3, 4, 7, 11]) ((1 : Int), (b_Slots.set c_Slot.toNat ((0 : Int), ((0 : Int), ((List.replicate 32 (0 : Int)), (List.replicate 32 (0 : Int))))))) h ?_
                  kernel_rfl
                · refine TS.cond (c_Kind == (3 : Int)) ?_ (fun e => by rw [c21] at e; cases e) (fun e => ?_)
                  · kernel_rfl
                  refine TS.seq ?_
                  have hq : (True) ∧ ((True) ∧ ((True) ∧ ((True) ∧ (True)))) := ⟨trivial, ⟨trivial, ⟨trivial, ⟨trivial, trivial⟩⟩⟩⟩
                  refine TS.reg [] ?_ ?_
                  · apply prop_of ?_ hq
                    kernel_rfl
                  refine XS.then ?_
                  rcases bif_some h with ⟨c22, h⟩ | ⟨c23, h⟩
                  · refine TS.cond (c_Kind == (4 : Int)) ?_ (fun e => ?_) (fun e => by rw [c22] at e; cases e)
                    · kernel_rfl
                    refine TS.opsOf ?_
                    have hq : (True) ∧ ((True) ∧ (True)) := ⟨trivial, ⟨trivial, trivial⟩⟩
                    refine TOS.run 2 [] (by kernel_rfl) ?_ ?_
                    · apply prop_of ?_ hq
                      kernel_rfl
                    refine TOS.call 62 (mkMask 95 [2, 3, 4, 7, 11]) Try.func62 rfl ?_
                    intro fv12
                    refine ⟨(mkTs 49 [(0, (.ptr 3 [])), (1, (.int .i64 c_Slot))], [(.box 36 (.st (.arr 9 (.st (.pair (.int .i64) (.pair (.int .i64) (.pair (.arr 32 (.int .i64)) (.arr 32 (.int .i64)))))) b_Slots))), (.box 23 (.st (.cons (.int .i64 c_Kind) (.cons (.int .i64 c_Slot) (.cons (.int .i64 c_End) (.int .i64 c_Arg)))))), (.box 36 (.st (.arr 9 (.st (.pair (.int .i64) (.pair (.int .i64) (.pair (.arr 32 (.int .i64)) (.arr 32 (.int .i64)))))) (List.replicate 9 ((0 : Int), ((0 : Int), ((List.replicate 32 (0 : Int)), (List.replicate 32 (0 : Int))))))))), (.box 36 (.st (.arr 9 (.st (.pair (.int .i64) (.pair (.int .i64) (.pair (.arr 32 (.int .i64)) (.arr 32 (.int .i64)))))) b_Slots))), (.sav (mkTs 95 [(2, (.ptr 0 [])), (3, (.ptr 1 [])), (4, (.ptr 2 [])), (7, (.ptr 3 [])), (11, (.int .i64 (1 : Int)))]) fv12)]), by kernel_rfl, ?_⟩
                    refine TS.seq ?_
                    have hq : (True) ∧ (True) := ⟨trivial, trivial⟩
                    refine TS.reg [] ?_ ?_
                    · apply prop_of ?_ hq
                      kernel_rfl
                    refine XS.then ?_
                    refine TS.seq ?_
                    refine TS.seq ?_
                    have hq : (True) ∧ ((True) ∧ ((True) ∧ ((True) ∧ ((inR c_Slot 9) ∧ ((True) ∧ ((c_Slot.toNat < 9 ∧ (True)) ∧ ((True) ∧ (True)))))))) := ⟨trivial, ⟨trivial, ⟨trivial, ⟨trivial, ⟨inb_ok t15, ⟨trivial, ⟨⟨inR_lt (inb_ok t15), trivial⟩, ⟨trivial, trivial⟩⟩⟩⟩⟩⟩⟩⟩
                    refine TS.reg [] ?_ ?_
                    · apply prop_of ?_ hq
                      kernel_rfl
                    refine XS.then ?_
                    rcases bif_some h with ⟨c24, h⟩ | ⟨c25, h⟩
                    · refine TS.cond ((b_Slots.getD c_Slot.toNat ((0 : Int), ((0 : Int), ((List.replicate 32 (0 : Int)), (List.replicate 32 (0 : Int)))))).1 != (1 : Int)) ?_ (fun e => ?_) (fun e => by rw [c24] at e; cases e)
                      · kernel_rfl
                      refine TS.seq ?_
                      have hq : (True) ∧ (True) := ⟨trivial, trivial⟩
                      refine TS.reg [] ?_ ?_
                      · apply prop_of ?_ hq
                        kernel_rfl
                      refine XS.then ?_
                      refine TS.ret ?_
                      refine XS.passR ?_
                      refine XS.backR 4 (mkTs 95 [(2, (.ptr 0 [])), (3, (.ptr 1 [])), (4, (.ptr 2 [])), (7, (.ptr 3 [])), (11, (.int .i64 (1 : Int)))]) (mkTs 95 [(2, (.ptr 0 [])), (3, (.ptr 1 [])), (4, (.ptr 2 [])), (7, (.ptr 3 [])), (11, (.int .i64 (1 : Int))), (79, (.int .i64 (19 : Int)))], [(.box 36 (.st (.arr 9 (.st (.pair (.int .i64) (.pair (.int .i64) (.pair (.arr 32 (.int .i64)) (.arr 32 (.int .i64)))))) b_Slots))), (.box 23 (.st (.cons (.int .i64 c_Kind) (.cons (.int .i64 c_Slot) (.cons (.int .i64 c_End) (.int .i64 c_Arg)))))), (.box 36 (.st (.arr 9 (.st (.pair (.int .i64) (.pair (.int .i64) (.pair (.arr 32 (.int .i64)) (.arr 32 (.int .i64)))))) (List.replicate 9 ((0 : Int), ((0 : Int), ((List.replicate 32 (0 : Int)), (List.replicate 32 (0 : Int))))))))), (.box 36 (.st (.arr 9 (.st (.pair (.int .i64) (.pair (.int .i64) (.pair (.arr 32 (.int .i64)) (.arr 32 (.int .i64)))))) b_Slots))), .dead]) ((True) ∧ (True)) (by kernel_rfl) (by kernel_rfl) ⟨trivial, trivial⟩ ?_
                      refine KS.opsOf ?_
                      have hq : (True) ∧ (True) := ⟨trivial, trivial⟩
                      refine TOS.run 1 [] (by kernel_rfl) ?_ ?_
                      · apply prop_of ?_ hq
                        kernel_rfl
                      refine TOS.nil (by kernel_rfl) ?_
                      refine XS.blockEnd ?_
                      refine XS.reAny [0, 1, 2, 3] (mkMask 95 [2, 3, 4, 7, 11]) ((19 : Int), b_Slots) h ?_
                      kernel_rfl
                    · refine TS.cond ((b_Slots.getD c_Slot.toNat ((0 : Int), ((0 : Int), ((List.replicate 32 (0 : Int)), (List.replicate 32 (0 : Int)))))).1 != (1 : Int)) ?_ (fun e => by rw [c25] at e; cases e) (fun e => ?_)
                      · kernel_rfl
                      refine TS.skip ?_
                      refine XS.then ?_
                      refine TS.seq ?_
                      have hq : (True) ∧ (True) := ⟨trivial, trivial⟩
                      refine TS.reg [] ?_ ?_
                      · apply prop_of ?_ hq
                        kernel_rfl
                      refine XS.then ?_
                      refine TS.seq ?_
                      refine TS.seq ?_
                      have hq : (True) ∧ (True) := ⟨trivial, trivial⟩
                      refine TS.reg [] ?_ ?_
                      · apply prop_of ?_ hq
                        kernel_rfl
                      refine XS.then ?_
                      refine TS.block ?_
                      refine TS.reLoop [4, 0, 1, 2, 3] (mkMask 49 [0, 1, 5, 6]) (D := Int × Bool) (fun d => match d with | (x_5, x_6) => (mkTs 49 [(0, (.ptr 4 [])), (1, (.int .i64 c_Slot)), (5, (.int .i64 x_5)), (6, (.bool x_6))], [(.sav (mkTs 95 [(2, (.ptr 1 [])), (3, (.ptr 2 [])), (4, (.ptr 3 [])), (7, (.ptr 4 [])), (11, (.int .i64 (1 : Int)))]) fv12), (.box 36 (.st (.arr 9 (.st (.pair (.int .i64) (.pair (.int .i64) (.pair (.arr 32 (.int .i64)) (.arr 32 (.int .i64)))))) b_Slots))), (.box 23 (.st (.cons (.int .i64 c_Kind) (.cons (.int .i64 c_Slot) (.cons (.int .i64 c_End) (.int .i64 c_Arg)))))), (.box 36 (.st (.arr 9 (.st (.pair (.int .i64) (.pair (.int .i64) (.pair (.arr 32 (.int .i64)) (.arr 32 (.int .i64)))))) (List.replicate 9 ((0 : Int), ((0 : Int), ((List.replicate 32 (0 : Int)), (List.replicate 32 (0 : Int))))))))), (.box 36 (.st (.arr 9 (.st (.pair (.int .i64) (.pair (.int .i64) (.pair (.arr 32 (.int .i64)) (.arr 32 (.int .i64)))))) b_Slots)))])) (fun n' d => loopF (F21_l79 n b_Slots c_Slot) n' d = some r) n ((1 : Int), true) h ?_ (fun d => loopF_zero _ d r) ?_
                      · kernel_rfl
                      · rintro n79 ⟨x_5, x_6⟩ h
                        replace h : (bif x_6 then (loopF (F21_l80 n (loopF (F21_l79 n b_Slots c_Slot) n79) b_Slots) n (x_5, false, (0 : Int))) else (F21_j71 n b_Slots c_Slot ((1 : Int), (((b_Slots.set c_Slot.toNat ((2 : Int), ((b_Slots.getD c_Slot.toNat ((0 : Int), ((0 : Int), ((List.replicate 32 (0 : Int)), (List.replicate 32 (0 : Int)))))).2.1, ((b_Slots.getD c_Slot.toNat ((0 : Int), ((0 : Int), ((List.replicate 32 (0 : Int)), (List.replicate 32 (0 : Int)))))).2.2.1, (b_Slots.getD c_Slot.toNat ((0 : Int), ((0 : Int), ((List.replicate 32 (0 : Int)), (List.replicate 32 (0 : Int)))))).2.2.2)))).set c_Slot.toNat (((b_Slots.set c_Slot.toNat ((2 : Int), ((b_Slots.getD c_Slot.toNat ((0 : Int), ((0 : Int), ((List.replicate 32 (0 : Int)), (List.replicate 32 (0 : Int)))))).2.1, ((b_Slots.getD c_Slot.toNat ((0 : Int), ((0 : Int), ((List.replicate 32 (0 : Int)), (List.replicate 32 (0 : Int)))))).2.2.1, (b_Slots.getD c_Slot.toNat ((0 : Int), ((0 : Int), ((List.replicate 32 (0 : Int)), (List.replicate 32 (0 : Int)))))).2.2.2)))).getD c_Slot.toNat ((0 : Int), ((0 : Int), ((List.replicate 32 (0 : Int)), (List.replicate 32 (0 : Int)))))).1, (x_5, (((b_Slots.set c_Slot.toNat ((2 : Int), ((b_Slots.getD c_Slot.toNat ((0 : Int), ((0 : Int), ((List.replicate 32 (0 : Int)), (List.replicate 32 (0 : Int)))))).2.1, ((b_Slots.getD c_Slot.toNat ((0 : Int), ((0 : Int), ((List.replicate 32 (0 : Int)), (List.replicate 32 (0 : Int)))))).2.2.1, (b_Slots.getD c_Slot.toNat ((0 : Int), ((0 : Int), ((List.replicate 32 (0 : Int)), (List.replicate 32 (0 : Int)))))).2.2.2)))).getD c_Slot.toNat ((0 : Int), ((0 : Int), ((List.replicate 32 (0 : Int)), (List.replicate 32 (0 : Int)))))).2.2.1, ((b_Slots.set c_Slot.toNat ((2 : Int), ((b_Slots.getD c_Slot.toNat ((0 : Int), ((0 : Int), ((List.replicate 32 (0 : Int)), (List.replicate 32 (0 : Int)))))).2.1, ((b_Slots.getD c_Slot.toNat ((0 : Int), ((0 : Int), ((List.replicate 32 (0 : Int)), (List.replicate 32 (0 : Int)))))).2.2.1, (b_Slots.getD c_Slot.toNat ((0 : Int), ((0 : Int), ((List.replicate 32 (0 : Int)), (List.replicate 32 (0 : Int)))))).2.2.2)))).getD c_Slot.toNat ((0 : Int), ((0 : Int), ((List.replicate 32 (0 : Int)), (List.replicate 32 (0 : Int)))))).2.2.2)))).set c_Slot.toNat ((((b_Slots.set c_Slot.toNat ((2 : Int), ((b_Slots.getD c_Slot.toNat ((0 : Int), ((0 : Int), ((List.replicate 32 (0 : Int)), (List.replicate 32 (0 : Int)))))).2.1, ((b_Slots.getD c_Slot.toNat ((0 : Int), ((0 : Int), ((List.replicate 32 (0 : Int)), (List.replicate 32 (0 : Int)))))).2.2.1, (b_Slots.getD c_Slot.toNat ((0 : Int), ((0 : Int), ((List.replicate 32 (0 : Int)), (List.replicate 32 (0 : Int)))))).2.2.2)))).set c_Slot.toNat (((b_Slots.set c_Slot.toNat ((2 : Int), ((b_Slots.getD c_Slot.toNat ((0 : Int), ((0 : Int), ((List.replicate 32 (0 : Int)), (List.replicate 32 (0 : Int)))))).2.1, ((b_Slots.getD c_Slot.toNat ((0 : Int), ((0 : Int), ((List.replicate 32 (0 : Int)), (List.replicate 32 (0 : Int)))))).2.2.1, (b_Slots.getD c_Slot.toNat ((0 : Int), ((0 : Int), ((List.replicate 32 (0 : Int)), (List.replicate 32 (0 : Int)))))).2.2.2)))).getD c_Slot.toNat ((0 : Int), ((0 : Int), ((List.replicate 32 (0 : Int)), (List.replicate 32 (0 : Int)))))).1, (x_5, (((b_Slots.set c_Slot.toNat ((2 : Int), ((b_Slots.getD c_Slot.toNat ((0 : Int), ((0 : Int), ((List.replicate 32 (0 : Int)), (List.replicate 32 (0 : Int)))))).2.1, ((b_Slots.getD c_Slot.toNat ((0 : Int), ((0 : Int), ((List.replicate 32 (0 : Int)), (List.replicate 32 (0 : Int)))))).2.2.1, (b_Slots.getD c_Slot.toNat ((0 : Int), ((0 : Int), ((List.replicate 32 (0 : Int)), (List.replicate 32 (0 : Int)))))).2.2.2)))).getD c_Slot.toNat ((0 : Int), ((0 : Int), ((List.replicate 32 (0 : Int)), (List.replicate 32 (0 : Int)))))).2.2.1, ((b_Slots.set c_Slot.toNat ((2 : Int), ((b_Slots.getD c_Slot.toNat ((0 : Int), ((0 : Int), ((List.replicate 32 (0 : Int)), (List.replicate 32 (0 : Int)))))).2.1, ((b_Slots.getD c_Slot.toNat ((0 : Int), ((0 : Int), ((List.replicate 32 (0 : Int)), (List.replicate 32 (0 : Int)))))).2.2.1, (b_Slots.getD c_Slot.toNat ((0 : Int), ((0 : Int), ((List.replicate 32 (0 : Int)), (List.replicate 32 (0 : Int)))))).2.2.2)))).getD c_Slot.toNat ((0 : Int), ((0 : Int), ((List.replicate 32 (0 : Int)), (List.replicate 32 (0 : Int)))))).2.2.2)))).getD c_Slot.toNat ((0 : Int), ((0 : Int), ((List.replicate 32 (0 : Int)), (List.replicate 32 (0 : Int)))))).1, ((((b_Slots.set c_Slot.toNat ((2 : Int), ((b_Slots.getD c_Slot.toNat ((0 : Int), ((0 : Int), ((List.replicate 32 (0 : Int)), (List.replicate 32 (0 : Int)))))).2.1, ((b_Slots.getD c_Slot.toNat ((0 : Int), ((0 : Int), ((List.replicate 32 (0 : Int)), (List.replicate 32 (0 : Int)))))).2.2.1, (b_Slots.getD c_Slot.toNat ((0 : Int), ((0 : Int), ((List.replicate 32 (0 : Int)), (List.replicate 32 (0 : Int)))))).2.2.2)))).set c_Slot.toNat (((b_Slots.set c_Slot.toNat ((2 : Int), ((b_Slots.getD c_Slot.toNat ((0 : Int), ((0 : Int), ((List.replicate 32 (0 : Int)), (List.replicate 32 (0 : Int)))))).2.1, ((b_Slots.getD c_Slot.toNat ((0 : Int), ((0 : Int), ((List.replicate 32 (0 : Int)), (List.replicate 32 (0 : Int)))))).2.2.1, (b_Slots.getD c_Slot.toNat ((0 : Int), ((0 : Int), ((List.replicate 32 (0 : Int)), (List.replicate 32 (0 : Int)))))).2.2.2)))).getD c_Slot.toNat ((0 : Int), ((0 : Int), ((List.replicate 32 (0 : Int)), (List.replicate 32 (0 : Int)))))).1, (x_5, (((b_Slots.set c_Slot.toNat ((2 : Int), ((b_Slots.getD c_Slot.toNat ((0 : Int), ((0 : Int), ((List.replicate 32 (0 : Int)), (List.replicate 32 (0 : Int)))))).2.1, ((b_Slots.getD c_Slot.toNat ((0 : Int), ((0 : Int), ((List.replicate 32 (0 : Int)), (List.replicate 32 (0 : Int)))))).2.2.1, (b_Slots.getD c_Slot.toNat ((0 : Int), ((0 : Int), ((List.replicate 32 (0 : Int)), (List.replicate 32 (0 : Int)))))).2.2.2)))).getD c_Slot.toNat ((0 : Int), ((0 : Int), ((List.replicate 32 (0 : Int)), (List.replicate 32 (0 : Int)))))).2.2.1, ((b_Slots.set c_Slot.toNat ((2 : Int), ((b_Slots.getD c_Slot.toNat ((0 : Int), ((0 : Int), ((List.replicate 32 (0 : Int)), (List.replicate 32 (0 : Int)))))).2.1, ((b_Slots.getD c_Slot.toNat ((0 : Int), ((0 : Int), ((List.replicate 32 (0 : Int)), (List.replicate 32 (0 : Int)))))).2.2.1, (b_Slots.getD c_Slot.toNat ((0 : Int), ((0 : Int), ((List.replicate 32 (0 : Int)), (List.replicate 32 (0 : Int)))))).2.2.2)))).getD c_Slot.toNat ((0 : Int), ((0 : Int), ((List.replicate 32 (0 : Int)), (List.replicate 32 (0 : Int)))))).2.2.2)))).getD c_Slot.toNat ((0 : Int), ((0 : Int), ((List.replicate 32 (0 : Int)), (List.replicate 32 (0 : Int)))))).2.1, ((((((b_Slots.set c_Slot.toNat ((2 : Int), ((b_Slots.getD c_Slot.toNat ((0 : Int), ((0 : Int), ((List.replicate 32 (0 : Int)), (List.replicate 32 (0 : Int)))))).2.1, ((b_Slots.getD c_Slot.toNat ((0 : Int), ((0 : Int), ((List.replicate 32 (0 : Int)), (List.replicate 32 (0 : Int)))))).2.2.1, (b_Slots.getD c_Slot.toNat ((0 : Int), ((0 : Int), ((List.replicate 32 (0 : Int)), (List.replicate 32 (0 : Int)))))).2.2.2)))).set c_Slot.toNat (((b_Slots.set c_Slot.toNat ((2 : Int), ((b_Slots.getD c_Slot.toNat ((0 : Int), ((0 : Int), ((List.replicate 32 (0 : Int)), (List.replicate 32 (0 : Int)))))).2.1, ((b_Slots.getD c_Slot.toNat ((0 : Int), ((0 : Int), ((List.replicate 32 (0 : Int)), (List.replicate 32 (0 : Int)))))).2.2.1, (b_Slots.getD c_Slot.toNat ((0 : Int), ((0 : Int), ((List.replicate 32 (0 : Int)), (List.replicate 32 (0 : Int)))))).2.2.2)))).getD c_Slot.toNat ((0 : Int), ((0 : Int), ((List.replicate 32 (0 : Int)), (List.replicate 32 (0 : Int)))))).1, (x_5, (((b_Slots.set c_Slot.toNat ((2 : Int), ((b_Slots.getD c_Slot.toNat ((0 : Int), ((0 : Int), ((List.replicate 32 (0 : Int)), (List.replicate 32 (0 : Int)))))).2.1, ((b_Slots.getD c_Slot.toNat ((0 : Int), ((0 : Int), ((List.replicate 32 (0 : Int)), (List.replicate 32 (0 : Int)))))).2.2.1, (b_Slots.getD c_Slot.toNat ((0 : Int), ((0 : Int), ((List.replicate 32 (0 : Int)), (List.replicate 32 (0 : Int)))))).2.2.2)))).getD c_Slot.toNat ((0 : Int), ((0 : Int), ((List.replicate 32 (0 : Int)), (List.replicate 32 (0 : Int)))))).2.2.1, ((b_Slots.set c_Slot.toNat ((2 : Int), ((b_Slots.getD c_Slot.toNat ((0 : Int), ((0 : Int), ((List.replicate 32 (0 : Int)), (List.replicate 32 (0 : Int)))))).2.1, ((b_Slots.getD c_Slot.toNat ((0 : Int), ((0 : Int), ((List.replicate 32 (0 : Int)), (List.replicate 32 (0 : Int)))))).2.2.1, (b_Slots.getD c_Slot.toNat ((0 : Int), ((0 : Int), ((List.replicate 32 (0 : Int)), (List.replicate 32 (0 : Int)))))).2.2.2)))).getD c_Slot.toNat ((0 : Int), ((0 : Int), ((List.replicate 32 (0 : Int)), (List.replicate 32 (0 : Int)))))).2.2.2)))).getD c_Slot.toNat ((0 : Int), ((0 : Int), ((List.replicate 32 (0 : Int)), (List.replicate 32 (0 : Int)))))).2.2.1).set 1 (1 : Int)), (((b_Slots.set c_Slot.toNat ((2 : Int), ((b_Slots.getD c_Slot.toNat ((0 : Int), ((0 : Int), ((List.replicate 32 (0 : Int)), (List.replicate 32 (0 : Int)))))).2.1, ((b_Slots.getD c_Slot.toNat ((0 : Int), ((0 : Int), ((List.replicate 32 (0 : Int)), (List.replicate 32 (0 : Int)))))).2.2.1, (b_Slots.getD c_Slot.toNat ((0 : Int), ((0 : Int), ((List.replicate 32 (0 : Int)), (List.replicate 32 (0 : Int)))))).2.2.2)))).set c_Slot.toNat (((b_Slots.set c_Slot.toNat ((2 : Int), ((b_Slots.getD c_Slot.toNat ((0 : Int), ((0 : Int), ((List.replicate 32 (0 : Int)), (List.replicate 32 (0 : Int)))))).2.1, ((b_Slots.getD c_Slot.toNat ((0 : Int), ((0 : Int), ((List.replicate 32 (0 : Int)), (List.replicate 32 (0 : Int)))))).2.2.1, (b_Slots.getD c_Slot.toNat ((0 : Int), ((0 : Int), ((List.replicate 32 (0 : Int)), (List.replicate 32 (0 : Int)))))).2.2.2)))).getD c_Slot.toNat ((0 : Int), ((0 : Int), ((List.replicate 32 (0 : Int)), (List.replicate 32 (0 : Int)))))).1, (x_5, (((b_Slots.set c_Slot.toNat ((2 : Int), ((b_Slots.getD c_Slot.toNat ((0 : Int), ((0 : Int), ((List.replicate 32 (0 : Int)), (List.replicate 32 (0 : Int)))))).2.1, ((b_Slots.getD c_Slot.toNat ((0 : Int), ((0 : Int), ((List.replicate 32 (0 : Int)), (List.replicate 32 (0 : Int)))))).2.2.1, (b_Slots.getD c_Slot.toNat ((0 : Int), ((0 : Int), ((List.replicate 32 (0 : Int)), (List.replicate 32 (0 : Int)))))).2.2.2)))).getD c_Slot.toNat ((0 : Int), ((0 : Int), ((List.replicate 32 (0 : Int)), (List.replicate 32 (0 : Int)))))).2.2.1, ((b_Slots.set c_Slot.toNat ((2 : Int), ((b_Slots.getD c_Slot.toNat ((0 : Int), ((0 : Int), ((List.replicate 32 (0 : Int)), (List.replicate 32 (0 : Int)))))).2.1, ((b_Slots.getD c_Slot.toNat ((0 : Int), ((0 : Int), ((List.replicate 32 (0 : Int)), (List.replicate 32 (0 : Int)))))).2.2.1, (b_Slots.getD c_Slot.toNat ((0 : Int), ((0 : Int), ((List.replicate 32 (0 : Int)), (List.replicate 32 (0 : Int)))))).2.2.2)))).getD c_Slot.toNat ((0 : Int), ((0 : Int), ((List.replicate 32 (0 : Int)), (List.replicate 32 (0 : Int)))))).2.2.2)))).getD c_Slot.toNat ((0 : Int), ((0 : Int), ((List.replicate 32 (0 : Int)), (List.replicate 32 (0 : Int)))))).2.2.2))))))) = some r := h
                        refine TS.seq ?_
                        refine TS.seq ?_
                        have hq : (True) ∧ (True) := ⟨trivial, trivial⟩
                        refine TS.reg [] ?_ ?_
                        · apply prop_of ?_ hq
                          kernel_rfl
                        refine XS.then ?_
                        rcases bif_some h with ⟨c26, h⟩ | ⟨c27, h⟩
                        · refine TS.cond x_6 ?_ (fun e => ?_) (fun e => by rw [c26] at e; cases e)
                          · kernel_rfl
                          refine TS.skip ?_
                          refine XS.then ?_
                          refine TS.block ?_
                          refine TS.seq ?_
                          have hq : (True) ∧ (True) := ⟨trivial, trivial⟩
                          refine TS.reg [] ?_ ?_
                          · apply prop_of ?_ hq
                            kernel_rfl
                          refine XS.then ?_
                          refine TS.seq ?_
                          have hq : (True) ∧ ((True) ∧ ((True) ∧ ((True) ∧ ((True) ∧ (True))))) := ⟨trivial, ⟨trivial, ⟨trivial, ⟨trivial, ⟨trivial, trivial⟩⟩⟩⟩⟩
                          refine TS.reg [] ?_ ?_
                          · apply prop_of ?_ hq
                            kernel_rfl
                          refine XS.then ?_
                          refine TS.block ?_
                          refine TS.reLoop [0, 1, 2, 3, 4] (mkMask 49 [0, 1, 5, 6, 22, 23]) (D := Int × Bool × Int) (fun d => match d with | (x_7, x_8, x_9) => (mkTs 49 [(0, (.ptr 4 [])), (1, (.int .i64 c_Slot)), (5, (.int .i64 x_7)), (6, (.bool x_8)), (22, (.arr 9 (.st (.pair (.int .i64) (.pair (.int .i64) (.pair (.arr 32 (.int .i64)) (.arr 32 (.int .i64)))))) b_Slots)), (23, (.int .i64 x_9))], [(.sav (mkTs 95 [(2, (.ptr 1 [])), (3, (.ptr 2 [])), (4, (.ptr 3 [])), (7, (.ptr 4 [])), (11, (.int .i64 (1 : Int)))]) fv12), (.box 36 (.st (.arr 9 (.st (.pair (.int .i64) (.pair (.int .i64) (.pair (.arr 32 (.int .i64)) (.arr 32 (.int .i64)))))) b_Slots))), (.box 23 (.st (.cons (.int .i64 c_Kind) (.cons (.int .i64 c_Slot) (.cons (.int .i64 c_End) (.int .i64 c_Arg)))))), (.box 36 (.st (.arr 9 (.st (.pair (.int .i64) (.pair (.int .i64) (.pair (.arr 32 (.int .i64)) (.arr 32 (.int .i64)))))) (List.replicate 9 ((0 : Int), ((0 : Int), ((List.replicate 32 (0 : Int)), (List.replicate 32 (0 : Int))))))))), (.box 36 (.st (.arr 9 (.st (.pair (.int .i64) (.pair (.int .i64) (.pair (.arr 32 (.int .i64)) (.arr 32 (.int .i64)))))) b_Slots)))])) (fun n' d => loopF (F21_l80 n (loopF (F21_l79 n b_Slots c_Slot) n79) b_Slots) n' d = some r) n (x_5, false, (0 : Int)) h ?_ (fun d => loopF_zero _ d r) ?_
                          · kernel_rfl
                          · rintro n80 ⟨x_7, x_8, x_9⟩ h
                            replace h : (bif (decide (x_9 < (9 : Int))) then (bif inb x_9 9 then (bif ((b_Slots.getD x_9.toNat ((0 : Int), ((0 : Int), ((List.replicate 32 (0 : Int)), (List.replicate 32 (0 : Int)))))).2.1 == x_7) then ((loopF (F21_l80 n (loopF (F21_l79 n b_Slots c_Slot) n79) b_Slots) n80) ((IntKind.wrap .i64 (x_7 + (1 : Int))), true, (IntKind.wrap .i64 (x_9 + (1 : Int))))) else ((loopF (F21_l80 n (loopF (F21_l79 n b_Slots c_Slot) n79) b_Slots) n80) (x_7, x_8, (IntKind.wrap .i64 (x_9 + (1 : Int)))))) else none) else ((loopF (F21_l79 n b_Slots c_Slot) n79) (x_7, x_8))) = some r := h
                            refine TS.seq ?_
                            have hq : (True) ∧ (True) := ⟨trivial, trivial⟩
                            refine TS.reg [] ?_ ?_
                            · apply prop_of ?_ hq
                              kernel_rfl
                            refine XS.then ?_
                            refine TS.seq ?_
                            rcases bif_some h with ⟨c28, h⟩ | ⟨c29, h⟩
                            · refine TS.cond (decide (x_9 < (9 : Int))) ?_ (fun e => ?_) (fun e => by rw [c28] at e; cases e)
                              · kernel_rfl
                              refine TS.skip ?_
                              refine XS.then ?_
                              refine TS.seq ?_
                              refine TS.block ?_
                              refine TS.seq ?_
                              obtain ⟨t30, h⟩ := test_some h
                              have hq : (inR x_9 9) ∧ ((True) ∧ ((True) ∧ (True))) := ⟨inb_ok t30, ⟨trivial, ⟨trivial, trivial⟩⟩⟩
                              refine TS.reg [] ?_ ?_
                              · apply prop_of ?_ hq
                                kernel_rfl
                              refine XS.then ?_
                              refine TS.seq ?_
                              have hq : (True) ∧ ((True) ∧ ((True) ∧ ((True) ∧ (True)))) := ⟨trivial, ⟨trivial, ⟨trivial, ⟨trivial, trivial⟩⟩⟩⟩
                              refine TS.reg [] ?_ ?_
                              · apply prop_of ?_ hq
                                kernel_rfl
                              refine XS.then ?_
                              rcases bif_some h with ⟨c31, h⟩ | ⟨c32, h⟩
                              · refine TS.cond ((b_Slots.getD x_9.toNat ((0 : Int), ((0 : Int), ((List.replicate 32 (0 : Int)), (List.replicate 32 (0 : Int)))))).2.1 == x_7) ?_ (fun e => ?_) (fun e => by rw [c31] at e; cases e)
                                · kernel_rfl
                                refine TS.seq ?_
                                have hq : (True) ∧ (True) := ⟨trivial, trivial⟩
                                refine TS.reg [] ?_ ?_
                                · apply prop_of ?_ hq
                                  kernel_rfl
                                refine XS.then ?_
                                have hq : (True) ∧ ((True) ∧ ((True) ∧ (True))) := ⟨trivial, ⟨trivial, ⟨trivial, trivial⟩⟩⟩
                                refine TS.reg [] ?_ ?_
                                · apply prop_of ?_ hq
                                  kernel_rfl
                                refine XS.blockEnd ?_
                                refine XS.then ?_
                                have hq : (True) ∧ ((True) ∧ (True)) := ⟨trivial, ⟨trivial, trivial⟩⟩
                                refine TS.reg [] ?_ ?_
                                · apply prop_of ?_ hq
                                  kernel_rfl
                                refine XS.reAny [0, 1, 2, 3, 4] (mkMask 49 [0, 1, 5, 6, 22, 23]) ((IntKind.wrap .i64 (x_7 + (1 : Int))), true, (IntKind.wrap .i64 (x_9 + (1 : Int)))) h ?_
                                kernel_rfl
                              · refine TS.cond ((b_Slots.getD x_9.toNat ((0 : Int), ((0 : Int), ((List.replicate 32 (0 : Int)), (List.replicate 32 (0 : Int)))))).2.1 == x_7) ?_ (fun e => by rw [c32] at e; cases e) (fun e => ?_)
                                · kernel_rfl
                                refine TS.skip ?_
                                refine XS.blockEnd ?_
                                refine XS.then ?_
                                have hq : (True) ∧ ((True) ∧ (True)) := ⟨trivial, ⟨trivial, trivial⟩⟩
                                refine TS.reg [] ?_ ?_
                                · apply prop_of ?_ hq
                                  kernel_rfl
                                refine XS.reAny [0, 1, 2, 3, 4] (mkMask 49 [0, 1, 5, 6, 22, 23]) (x_7, x_8, (IntKind.wrap .i64 (x_9 + (1 : Int)))) h ?_
                                kernel_rfl
                            · refine TS.cond (decide (x_9 < (9 : Int))) ?_ (fun e => by rw [c29] at e; cases e) (fun e => ?_)
                              · kernel_rfl
                              refine TS.exit ?_
                              refine XS.passE ?_
                              refine XS.passE ?_
                              refine XS.out ?_
                              refine XS.blockEnd ?_
                              refine XS.reAny [0, 1, 2, 3, 4] (mkMask 49 [0, 1, 5, 6]) (x_7, x_8) h ?_
                              kernel_rfl
                        · refine TS.cond x_6 ?_ (fun e => by rw [c27] at e; cases e) (fun e => ?_)
                          · kernel_rfl
                          refine TS.exit ?_
                          refine XS.passE ?_
                          refine XS.passE ?_
                          refine XS.out ?_
                          refine XS.then ?_
                          refine TS.seq ?_
                          have hq : (True) ∧ ((True) ∧ ((True) ∧ ((True) ∧ ((inR c_Slot 9) ∧ ((True) ∧ (True)))))) := ⟨trivial, ⟨trivial, ⟨trivial, ⟨trivial, ⟨inb_ok t15, ⟨trivial, trivial⟩⟩⟩⟩⟩⟩
                          refine TS.reg [] ?_ ?_
                          · apply prop_of ?_ hq
                            kernel_rfl
                          refine XS.then ?_
                          refine TS.seq ?_
                          have hq : ((True) ∧ ((True) ∧ ((True) ∧ ((True) ∧ ((True) ∧ ((True) ∧ ((c_Slot.toNat < 9 ∧ (True)) ∧ ((True) ∧ ((True) ∧ ((c_Slot.toNat < 9 ∧ (True)) ∧ ((True) ∧ ((True) ∧ ((inR (1 : Int) 32) ∧ (True)))))))))))))) ∧ ((c_Slot.toNat < 9 ∧ (1 < 32 ∧ (True))) ∧ (True)) := ⟨⟨trivial, ⟨trivial, ⟨trivial, ⟨trivial, ⟨trivial, ⟨trivial, ⟨⟨inR_lt (inb_ok t15), trivial⟩, ⟨trivial, ⟨trivial, ⟨⟨inR_lt (inb_ok t15), trivial⟩, ⟨trivial, ⟨trivial, ⟨⟨by decide, by decide⟩, trivial⟩⟩⟩⟩⟩⟩⟩⟩⟩⟩⟩⟩⟩, ⟨⟨inR_lt (inb_ok t15), ⟨(by decide), trivial⟩⟩, trivial⟩⟩
                          refine TS.draw 13 [(6, 4), (9, 4)] [] (by kernel_rfl) ?_ ?_
                          · apply prop_of ?_ hq
                            kernel_rfl
                          refine XS.then ?_
                          refine TS.seq ?_
                          have hq : (True) ∧ (True) := ⟨trivial, trivial⟩
                          refine TS.reg [] ?_ ?_
                          · apply prop_of ?_ hq
                            kernel_rfl
                          refine XS.then ?_
                          refine TS.ret ?_
                          refine XS.backR 0 (mkTs 95 [(2, (.ptr 1 [])), (3, (.ptr 2 [])), (4, (.ptr 3 [])), (7, (.ptr 4 [])), (11, (.int .i64 (1 : Int)))]) (mkTs 95 [(2, (.ptr 1 [])), (3, (.ptr 2 [])), (4, (.ptr 3 [])), (7, (.ptr 4 [])), (11, (.int .i64 (1 : Int))), (79, (.int .i64 (1 : Int)))], [.dead, (.box 36 (.st (.arr 9 (.st (.pair (.int .i64) (.pair (.int .i64) (.pair (.arr 32 (.int .i64)) (.arr 32 (.int .i64)))))) b_Slots))), (.box 23 (.st (.cons (.int .i64 c_Kind) (.cons (.int .i64 c_Slot) (.cons (.int .i64 c_End) (.int .i64 c_Arg)))))), (.box 36 (.st (.arr 9 (.st (.pair (.int .i64) (.pair (.int .i64) (.pair (.arr 32 (.int .i64)) (.arr 32 (.int .i64)))))) (List.replicate 9 ((0 : Int), ((0 : Int), ((List.replicate 32 (0 : Int)), (List.replicate 32 (0 : Int))))))))), (.box 36 (.st (.arr 9 (.st (.pair (.int .i64) (.pair (.int .i64) (.pair (.arr 32 (.int .i64)) (.arr 32 (.int .i64)))))) (((b_Slots.set c_Slot.toNat ((2 : Int), ((b_Slots.getD c_Slot.toNat ((0 : Int), ((0 : Int), ((List.replicate 32 (0 : Int)), (List.replicate 32 (0 : Int)))))).2.1, ((b_Slots.getD c_Slot.toNat ((0 : Int), ((0 : Int), ((List.replicate 32 (0 : Int)), (List.replicate 32 (0 : Int)))))).2.2.1, (b_Slots.getD c_Slot.toNat ((0 : Int), ((0 : Int), ((List.replicate 32 (0 : Int)), (List.replicate 32 (0 : Int)))))).2.2.2)))).set c_Slot.toNat (((b_Slots.set c_Slot.toNat ((2 : Int), ((b_Slots.getD c_Slot.toNat ((0 : Int), ((0 : Int), ((List.replicate 32 (0 : Int)), (List.replicate 32 (0 : Int)))))).2.1, ((b_Slots.getD c_Slot.toNat ((0 : Int), ((0 : Int), ((List.replicate 32 (0 : Int)), (List.replicate 32 (0 : Int)))))).2.2.1, (b_Slots.getD c_Slot.toNat ((0 : Int), ((0 : Int), ((List.replicate 32 (0 : Int)), (List.replicate 32 (0 : Int)))))).2.2.2)))).getD c_Slot.toNat ((0 : Int), ((0 : Int), ((List.replicate 32 (0 : Int)), (List.replicate 32 (0 : Int)))))).1, (x_5, (((b_Slots.set c_Slot.toNat ((2 : Int), ((b_Slots.getD c_Slot.toNat ((0 : Int), ((0 : Int), ((List.replicate 32 (0 : Int)), (List.replicate 32 (0 : Int)))))).2.1, ((b_Slots.getD c_Slot.toNat ((0 : Int), ((0 : Int), ((List.replicate 32 (0 : Int)), (List.replicate 32 (0 : Int)))))).2.2.1, (b_Slots.getD c_Slot.toNat ((0 : Int), ((0 : Int), ((List.replicate 32 (0 : Int)), (List.replicate 32 (0 : Int)))))).2.2.2)))).getD c_Slot.toNat ((0 : Int), ((0 : Int), ((List.replicate 32 (0 : Int)), (List.replicate 32 (0 : Int)))))).2.2.1, ((b_Slots.set c_Slot.toNat ((2 : Int), ((b_Slots.getD c_Slot.toNat ((0 : Int), ((0 : Int), ((List.replicate 32 (0 : Int)), (List.replicate 32 (0 : Int)))))).2.1, ((b_Slots.getD c_Slot.toNat ((0 : Int), ((0 : Int), ((List.replicate 32 (0 : Int)), (List.replicate 32 (0 : Int)))))).2.2.1, (b_Slots.getD c_Slot.toNat ((0 : Int), ((0 : Int), ((List.replicate 32 (0 : Int)), (List.replicate 32 (0 : Int)))))).2.2.2)))).getD c_Slot.toNat ((0 : Int), ((0 : Int), ((List.replicate 32 (0 : Int)), (List.replicate 32 (0 : Int)))))).2.2.2)))).set c_Slot.toNat ((((b_Slots.set c_Slot.toNat ((2 : Int), ((b_Slots.getD c_Slot.toNat ((0 : Int), ((0 : Int), ((List.replicate 32 (0 : Int)), (List.replicate 32 (0 : Int)))))).2.1, ((b_Slots.getD c_Slot.toNat ((0 : Int), ((0 : Int), ((List.replicate 32 (0 : Int)), (List.replicate 32 (0 : Int)))))).2.2.1, (b_Slots.getD c_Slot.toNat ((0 : Int), ((0 : Int), ((List.replicate 32 (0 : Int)), (List.replicate 32 (0 : Int)))))).2.2.2)))).set c_Slot.toNat (((b_Slots.set c_Slot.toNat ((2 : Int), ((b_Slots.getD c_Slot.toNat ((0 : Int), ((0 : Int), ((List.replicate 32 (0 : Int)), (List.replicate 32 (0 : Int)))))).2.1, ((b_Slots.getD c_Slot.toNat ((0 : Int), ((0 : Int), ((List.replicate 32 (0 : Int)), (List.replicate 32 (0 : Int)))))).2.2.1, (b_Slots.getD c_Slot.toNat ((0 : Int), ((0 : Int), ((List.replicate 32 (0 : Int)), (List.replicate 32 (0 : Int)))))).2.2.2)))).getD c_Slot.toNat ((0 : Int), ((0 : Int), ((List.replicate 32 (0 : Int)), (List.replicate 32 (0 : Int)))))).1, (x_5, (((b_Slots.set c_Slot.toNat ((2 : Int), ((b_Slots.getD c_Slot.toNat ((0 : Int), ((0 : Int), ((List.replicate 32 (0 : Int)), (List.replicate 32 (0 : Int)))))).2.1, ((b_Slots.getD c_Slot.toNat ((0 : Int), ((0 : Int), ((List.replicate 32 (0 : Int)), (List.replicate 32 (0 : Int)))))).2.2.1, (b_Slots.getD c_Slot.toNat ((0 : Int), ((0 : Int), ((List.replicate 32 (0 : Int)), (List.replicate 32 (0 : Int)))))).2.2.2)))).getD c_Slot.toNat ((0 : Int), ((0 : Int), ((List.replicate 32 (0 : Int)), (List.replicate 32 (0 : Int)))))).2.2.1, ((b_Slots.set c_Slot.toNat ((2 : Int), ((b_Slots.getD c_Slot.toNat ((0 : Int), ((0 : Int), ((List.replicate 32 (0 : Int)), (List.replicate 32 (0 : Int)))))).2.1, ((b_Slots.getD c_Slot.toNat ((0 : Int), ((0 : Int), ((List.replicate 32 (0 : Int)), (List.replicate 32 (0 : Int)))))).2.2.1, (b_Slots.getD c_Slot.toNat ((0 : Int), ((0 : Int), ((List.replicate 32 (0 : Int)), (List.replicate 32 (0 : Int)))))).2.2.2)))).getD c_Slot.toNat ((0 : Int), ((0 : Int), ((List.replicate 32 (0 : Int)), (List.replicate 32 (0 : Int)))))).2.2.2)))).getD c_Slot.toNat ((0 : Int), ((0 : Int), ((List.replicate 32 (0 : Int)), (List.replicate 32 (0 : Int)))))).1, ((((b_Slots.set c_Slot.toNat ((2 : Int), ((b_Slots.getD c_Slot.toNat ((0 : Int), ((0 : Int), ((List.replicate 32 (0 : Int)), (List.replicate 32 (0 : Int)))))).2.1, ((b_Slots.getD c_Slot.toNat ((0 : Int), ((0 : Int), ((List.replicate 32 (0 : Int)), (List.replicate 32 (0 : Int)))))).2.2.1, (b_Slots.getD c_Slot.toNat ((0 : Int), ((0 : Int), ((List.replicate 32 (0 : Int)), (List.replicate 32 (0 : Int)))))).2.2.2)))).set c_Slot.toNat (((b_Slots.set c_Slot.toNat ((2 : Int), ((b_Slots.getD c_Slot.toNat ((0 : Int), ((0 : Int), ((List.replicate 32 (0 : Int)), (List.replicate 32 (0 : Int)))))).2.1, ((b_Slots.getD c_Slot.toNat ((0 : Int), ((0 : Int), ((List.replicate 32 (0 : Int)), (List.replicate 32 (0 : Int)))))).2.2.1, (b_Slots.getD c_Slot.toNat ((0 : Int), ((0 : Int), ((List.replicate 32 (0 : Int)), (List.replicate 32 (0 : Int)))))).2.2.2)))).getD c_Slot.toNat ((0 : Int), ((0 : Int), ((List.replicate 32 (0 : Int)), (List.replicate 32 (0 : Int)))))).1, (x_5, (((b_Slots.set c_Slot.toNat ((2 : Int), ((b_Slots.getD c_Slot.toNat ((0 : Int), ((0 : Int), ((List.replicate 32 (0 : Int)), (List.replicate 32 (0 : Int)))))).2.1, ((b_Slots.getD c_Slot.toNat ((0 : Int), ((0 : Int), ((List.replicate 32 (0 : Int)), (List.replicate 32 (0 : Int)))))).2.2.1, (b_Slots.getD c_Slot.toNat ((0 : Int), ((0 : Int), ((List.replicate 32 (0 : Int)), (List.replicate 32 (0 : Int)))))).2.2.2)))).getD c_Slot.toNat ((0 : Int), ((0 : Int), ((List.replicate 32 (0 : Int)), (List.replicate 32 (0 : Int)))))).2.2.1, ((b_Slots.set c_Slot.toNat ((2 : Int), ((b_Slots.getD c_Slot.toNat ((0 : Int), ((0 : Int), ((List.replicate 32 (0 : Int)), (List.replicate 32 (0 : Int)))))).2.1, ((b_Slots.getD c_Slot.toNat ((0 : Int), ((0 : Int), ((List.replicate 32 (0 : Int)), (List.replicate 32 (0 : Int)))))).2.2.1, (b_Slots.getD c_Slot.toNat ((0 : Int), ((0 : Int), ((List.replicate 32 (0 : Int)), (List.replicate 32 (0 : Int)))))).2.2.2)))).getD c_Slot.toNat ((0 : Int), ((0 : Int), ((List.replicate 32 (0 : Int)), (List.replicate 32 (0 : Int)))))).2.2.2)))).getD c_Slot.toNat ((0 : Int), ((0 : Int), ((List.replicate 32 (0 : Int)), (List.replicate 32 (0 : Int)))))).2.1, ((((((b_Slots.set c_Slot.toNat ((2 : Int), ((b_Slots.getD c_Slot.toNat ((0 : Int), ((0 : Int), ((List.replicate 32 (0 : Int)), (List.replicate 32 (0 : Int)))))).2.1, ((b_Slots.getD c_Slot.toNat ((0 : Int), ((0 : Int), ((List.replicate 32 (0 : Int)), (List.replicate 32 (0 : Int)))))).2.2.1, (b_Slots.getD c_Slot.toNat ((0 : Int), ((0 : Int), ((List.replicate 32 (0 : Int)), (List.replicate 32 (0 : Int)))))).2.2.2)))).set c_Slot.toNat (((b_Slots.set c_Slot.toNat ((2 : Int), ((b_Slots.getD c_Slot.toNat ((0 : Int), ((0 : Int), ((List.replicate 32 (0 : Int)), (List.replicate 32 (0 : Int)))))).2.1, ((b_Slots.getD c_Slot.toNat ((0 : Int), ((0 : Int), ((List.replicate 32 (0 : Int)), (List.replicate 32 (0 : Int)))))).2.2.1, (b_Slots.getD c_Slot.toNat ((0 : Int), ((0 : Int), ((List.replicate 32 (0 : Int)), (List.replicate 32 (0 : Int)))))).2.2.2)))).getD c_Slot.toNat ((0 : Int), ((0 : Int), ((List.replicate 32 (0 : Int)), (List.replicate 32 (0 : Int)))))).1, (x_5, (((b_Slots.set c_Slot.toNat ((2 : Int), ((b_Slots.getD c_Slot.toNat ((0 : Int), ((0 : Int), ((List.replicate 32 (0 : Int)), (List.replicate 32 (0 : Int)))))).2.1, ((b_Slots.getD c_Slot.toNat ((0 : Int), ((0 : Int), ((List.replicate 32 (0 : Int)), (List.replicate 32 (0 : Int)))))).2.2.1, (b_Slots.getD c_Slot.toNat ((0 : Int), ((0 : Int), ((List.replicate 32 (0 : Int)), (List.replicate 32 (0 : Int)))))).2.2.2)))).getD c_Slot.toNat ((0 : Int), ((0 : Int), ((List.replicate 32 (0 : Int)), (List.replicate 32 (0 : Int)))))).2.2.1, ((b_Slots.set c_Slot.toNat ((2 : Int), ((b_Slots.getD c_Slot.toNat ((0 : Int), ((0 : Int), ((List.replicate 32 (0 : Int)), (List.replicate 32 (0 : Int)))))).2.1, ((b_Slots.getD c_Slot.toNat ((0 : Int), ((0 : Int), ((List.replicate 32 (0 : Int)), (List.replicate 32 (0 : Int)))))).2.2.1, (b_Slots.getD c_Slot.toNat ((0 : Int), ((0 : Int), ((List.replicate 32 (0 : Int)), (List.replicate 32 (0 : Int)))))).2.2.2)))).getD c_Slot.toNat ((0 : Int), ((0 : Int), ((List.replicate 32 (0 : Int)), (List.replicate 32 (0 : Int)))))).2.2.2)))).getD c_Slot.toNat ((0 : Int), ((0 : Int), ((List.replicate 32 (0 : Int)), (List.replicate 32 (0 : Int)))))).2.2.1).set 1 (1 : Int)), (((b_Slots.set c_Slot.toNat ((2 : Int), ((b_Slots.getD c_Slot.toNat ((0 : Int), ((0 : Int), ((List.replicate 32 (0 : Int)), (List.replicate 32 (0 : Int)))))).2.1, ((b_Slots.getD c_Slot.toNat ((0 : Int), ((0 : Int), ((List.replicate 32 (0 : Int)), (List.replicate 32 (0 : Int)))))).2.2.1, (b_Slots.getD c_Slot.toNat ((0 : Int), ((0 : Int), ((List.replicate 32 (0 : Int)), (List.replicate 32 (0 : Int)))))).2.2.2)))).set c_Slot.toNat (((b_Slots.set c_Slot.toNat ((2 : Int), ((b_Slots.getD c_Slot.toNat ((0 : Int), ((0 : Int), ((List.replicate 32 (0 : Int)), (List.replicate 32 (0 : Int)))))).2.1, ((b_Slots.getD c_Slot.toNat ((0 : Int), ((0 : Int), ((List.replicate 32 (0 : Int)), (List.replicate 32 (0 : Int)))))).2.2.1, (b_Slots.getD c_Slot.toNat ((0 : Int), ((0 : Int), ((List.replicate 32 (0 : Int)), (List.replicate 32 (0 : Int)))))).2.2.2)))).getD c_Slot.toNat ((0 : Int), ((0 : Int), ((List.replicate 32 (0 : Int)), (List.replicate 32 (0 : Int)))))).1, (x_5, (((b_Slots.set c_Slot.toNat ((2 : Int), ((b_Slots.getD c_Slot.toNat ((0 : Int), ((0 : Int), ((List.replicate 32 (0 : Int)), (List.replicate 32 (0 : Int)))))).2.1, ((b_Slots.getD c_Slot.toNat ((0 : Int), ((0 : Int), ((List.replicate 32 (0 : Int)), (List.replicate 32 (0 : Int)))))).2.2.1, (b_Slots.getD c_Slot.toNat ((0 : Int), ((0 : Int), ((List.replicate 32 (0 : Int)), (List.replicate 32 (0 : Int)))))).2.2.2)))).getD c_Slot.toNat ((0 : Int), ((0 : Int), ((List.replicate 32 (0 : Int)), (List.replicate 32 (0 : Int)))))).2.2.1, ((b_Slots.set c_Slot.toNat ((2 : Int), ((b_Slots.getD c_Slot.toNat ((0 : Int), ((0 : Int), ((List.replicate 32 (0 : Int)), (List.replicate 32 (0 : Int)))))).2.1, ((b_Slots.getD c_Slot.toNat ((0 : Int), ((0 : Int), ((List.replicate 32 (0 : Int)), (List.replicate 32 (0 : Int)))))).2.2.1, (b_Slots.getD c_Slot.toNat ((0 : Int), ((0 : Int), ((List.replicate 32 (0 : Int)), (List.replicate 32 (0 : Int)))))).2.2.2)))).getD c_Slot.toNat ((0 : Int), ((0 : Int), ((List.replicate 32 (0 : Int)), (List.replicate 32 (0 : Int)))))).2.2.2)))).getD c_Slot.toNat ((0 : Int), ((0 : Int), ((List.replicate 32 (0 : Int)), (List.replicate 32 (0 : Int)))))).2.2.2)))))))]) ((True) ∧ (True)) (by kernel_rfl) (by kernel_rfl) ⟨trivial, trivial⟩ ?_
                          refine KS.opsOf ?_
                          have hq : (True) ∧ (True) := ⟨trivial, trivial⟩
                          refine TOS.run 1 [] (by kernel_rfl) ?_ ?_
                          · apply prop_of ?_ hq
                            kernel_rfl
                          refine TOS.nil (by kernel_rfl) ?_
                          refine XS.blockEnd ?_
                          refine XS.reAny [1, 2, 3, 4] (mkMask 95 [2, 3, 4, 7, 11]) ((1 : Int), (((b_Slots.set c_Slot.toNat ((2 : Int), ((b_Slots.getD c_Slot.toNat ((0 : Int), ((0 : Int), ((List.replicate 32 (0 : Int)), (List.replicate 32 (0 : Int)))))).2.1, ((b_Slots.getD c_Slot.toNat ((0 : Int), ((0 : Int), ((List.replicate 32 (0 : Int)), (List.replicate 32 (0 : Int)))))).2.2.1, (b_Slots.getD c_Slot.toNat ((0 : Int), ((0 : Int), ((List.replicate 32 (0 : Int)), (List.replicate 32 (0 : Int)))))).2.2.2)))).set c_Slot.toNat (((b_Slots.set c_Slot.toNat ((2 : Int), ((b_Slots.getD c_Slot.toNat ((0 : Int), ((0 : Int), ((List.replicate 32 (0 : Int)), (List.replicate 32 (0 : Int)))))).2.1, ((b_Slots.getD c_Slot.toNat ((0 : Int), ((0 : Int), ((List.replicate 32 (0 : Int)), (List.replicate 32 (0 : Int)))))).2.2.1, (b_Slots.getD c_Slot.toNat ((0 : Int), ((0 : Int), ((List.replicate 32 (0 : Int)), (List.replicate 32 (0 : Int)))))).2.2.2)))).getD c_Slot.toNat ((0 : Int), ((0 : Int), ((List.replicate 32 (0 : Int)), (List.replicate 32 (0 : Int)))))).1, (x_5, (((b_Slots.set c_Slot.toNat ((2 : Int), ((b_Slots.getD c_Slot.toNat ((0 : Int), ((0 : Int), ((List.replicate 32 (0 : Int)), (List.replicate 32 (0 : Int)))))).2.1, ((b_Slots.getD c_Slot.toNat ((0 : Int), ((0 : Int), ((List.replicate 32 (0 : Int)), (List.replicate 32 (0 : Int)))))).2.2.1, (b_Slots.getD c_Slot.toNat ((0 : Int), ((0 : Int), ((List.replicate 32 (0 : Int)), (List.replicate 32 (0 : Int)))))).2.2.2)))).getD c_Slot.toNat ((0 : Int), ((0 : Int), ((List.replicate 32 (0 : Int)), (List.replicate 32 (0 : Int)))))).2.2.1, ((b_Slots.set c_Slot.toNat ((2 : Int), ((b_Slots.getD c_Slot.toNat ((0 : Int), ((0 : Int), ((List.replicate 32 (0 : Int)), (List.replicate 32 (0 : Int)))))).2.1, ((b_Slots.getD c_Slot.toNat ((0 : Int), ((0 : Int), ((List.replicate 32 (0 : Int)), (List.replicate 32 (0 : Int)))))).2.2.1, (b_Slots.getD c_Slot.toNat ((0 : Int), ((0 : Int), ((List.replicate 32 (0 : Int)), (List.replicate 32 (0 : Int)))))).2.2.2)))).getD c_Slot.toNat ((0 : Int), ((0 : Int), ((List.replicate 32 (0 : Int)), (List.replicate 32 (0 : Int)))))).2.2.2)))).set c_Slot.toNat ((((b_Slots.set c_Slot.toNat ((2 : Int), ((b_Slots.getD c_Slot.toNat ((0 : Int), ((0 : Int), ((List.replicate 32 (0 : Int)), (List.replicate 32 (0 : Int)))))).2.1, ((b_Slots.getD c_Slot.toNat ((0 : Int), ((0 : Int), ((List.replicate 32 (0 : Int)), (List.replicate 32 (0 : Int)))))).2.2.1, (b_Slots.getD c_Slot.toNat ((0 : Int), ((0 : Int), ((List.replicate 32 (0 : Int)), (List.replicate 32 (0 : Int)))))).2.2.2)))).set c_Slot.toNat (((b_Slots.set c_Slot.toNat ((2 : Int), ((b_Slots.getD c_Slot.toNat ((0 : Int), ((0 : Int), ((List.replicate 32 (0 : Int)), (List.replicate 32 (0 : Int)))))).2.1, ((b_Slots.getD c_Slot.toNat ((0 : Int), ((0 : Int), ((List.replicate 32 (0 : Int)), (List.replicate 32 (0 : Int)))))).2.2.1, (b_Slots.getD c_Slot.toNat ((0 : Int), ((0 : Int), ((List.replicate 32 (0 : Int)), (List.replicate 32 (0 : Int)))))).2.2.2)))).getD c_Slot.toNat ((0 : Int), ((0 : Int), ((List.replicate 32 (0 : Int)), (List.replicate 32 (0 : Int)))))).1, (x_5, (((b_Slots.set c_Slot.toNat ((2 : Int), ((b_Slots.getD c_Slot.toNat ((0 : Int), ((0 : Int), ((List.replicate 32 (0 : Int)), (List.replicate 32 (0 : Int)))))).2.1, ((b_Slots.getD c_Slot.toNat ((0 : Int), ((0 : Int), ((List.replicate 32 (0 : Int)), (List.replicate 32 (0 : Int)))))).2.2.1, (b_Slots.getD c_Slot.toNat ((0 : Int), ((0 : Int), ((List.replicate 32 (0 : Int)), (List.replicate 32 (0 : Int)))))).2.2.2)))).getD c_Slot.toNat ((0 : Int), ((0 : Int), ((List.replicate 32 (0 : Int)), (List.replicate 32 (0 : Int)))))).2.2.1, ((b_Slots.set c_Slot.toNat ((2 : Int), ((b_Slots.getD c_Slot.toNat ((0 : Int), ((0 : Int), ((List.replicate 32 (0 : Int)), (List.replicate 32 (0 : Int)))))).2.1, ((b_Slots.getD c_Slot.toNat ((0 : Int), ((0 : Int), ((List.replicate 32 (0 : Int)), (List.replicate 32 (0 : Int)))))).2.2.1, (b_Slots.getD c_Slot.toNat ((0 : Int), ((0 : Int), ((List.replicate 32 (0 : Int)), (List.replicate 32 (0 : Int)))))).2.2.2)))).getD c_Slot.toNat ((0 : Int), ((0 : Int), ((List.replicate 32 (0 : Int)), (List.replicate 32 (0 : Int)))))).2.2.2)))).getD c_Slot.toNat ((0 : Int), ((0 : Int), ((List.replicate 32 (0 : Int)), (List.replicate 32 (0 : Int)))))).1, ((((b_Slots.set c_Slot.toNat ((2 : Int), ((b_Slots.getD c_Slot.toNat ((0 : Int), ((0 : Int), ((List.replicate 32 (0 : Int)), (List.replicate 32 (0 : Int)))))).2.1, ((b_Slots.getD c_Slot.toNat ((0 : Int), ((0 : Int), ((List.replicate 32 (0 : Int)), (List.replicate 32 (0 : Int)))))).2.2.1, (b_Slots.getD c_Slot.toNat ((0 : Int), ((0 : Int), ((List.replicate 32 (0 : Int)), (List.replicate 32 (0 : Int)))))).2.2.2)))).set c_Slot.toNat (((b_Slots.set c_Slot.toNat ((2 : Int), ((b_Slots.getD c_Slot.toNat ((0 : Int), ((0 : Int), ((List.replicate 32 (0 : Int)), (List.replicate 32 (0 : Int)))))).2.1, ((b_Slots.getD c_Slot.toNat ((0 : Int), ((0 : Int), ((List.replicate 32 (0 : Int)), (List.replicate 32 (0 : Int)))))).2.2.1, (b_Slots.getD c_Slot.toNat ((0 : Int), ((0 : Int), ((List.replicate 32 (0 : Int)), (List.replicate 32 (0 : Int)))))).2.2.2)))).getD c_Slot.toNat ((0 : Int), ((0 : Int), ((List.replicate 32 (0 : Int)), (List.replicate 32 (0 : Int)))))).1, (x_5, (((b_Slots.set c_Slot.toNat ((2 : Int), ((b_Slots.getD c_Slot.toNat ((0 : Int), ((0 : Int), ((List.replicate 32 (0 : Int)), (List.replicate 32 (0 : Int)))))).2.1, ((b_Slots.getD c_Slot.toNat ((0 : Int), ((0 : Int), ((List.replicate 32 (0 : Int)), (List.replicate 32 (0 : Int)))))).2.2.1, (b_Slots.getD c_Slot.toNat ((0 : Int), ((0 : Int), ((List.replicate 32 (0 : Int)), (List.replicate 32 (0 : Int)))))).2.2.2)))).getD c_Slot.toNat ((0 : Int), ((0 : Int), ((List.replicate 32 (0 : Int)), (List.replicate 32 (0 : Int)))))).2.2.1, ((b_Slots.set c_Slot.toNat ((2 : Int), ((b_Slots.getD c_Slot.toNat ((0 : Int), ((0 : Int), ((List.replicate 32 (0 : Int)), (List.replicate 32 (0 : Int)))))).2.1, ((b_Slots.getD c_Slot.toNat ((0 : Int), ((0 : Int), ((List.replicate 32 (0 : Int)), (List.replicate 32 (0 : Int)))))).2.2.1, (b_Slots.getD c_Slot.toNat ((0 : Int), ((0 : Int), ((List.replicate 32 (0 : Int)), (List.replicate 32 (0 : Int)))))).2.2.2)))).getD c_Slot.toNat ((0 : Int), ((0 : Int), ((List.replicate 32 (0 : Int)), (List.replicate 32 (0 : Int)))))).2.2.2)))).getD c_Slot.toNat ((0 : Int), ((0 : Int), ((List.replicate 32 (0 : Int)), (List.replicate 32 (0 : Int)))))).2.1, ((((((b_Slots.set c_Slot.toNat ((2 : Int), ((b_Slots.getD c_Slot.toNat ((0 : Int), ((0 : Int), ((List.replicate 32 (0 : Int)), (List.replicate 32 (0 : Int)))))).2.1, ((b_Slots.getD c_Slot.toNat ((0 : Int), ((0 : Int), ((List.replicate 32 (0 : Int)), (List.replicate 32 (0 : Int)))))).2.2.1, (b_Slots.getD c_Slot.toNat ((0 : Int), ((0 : Int), ((List.replicate 32 (0 : Int)), (List.replicate 32 (0 : Int)))))).2.2.2)))).set c_Slot.toNat (((b_Slots.set c_Slot.toNat ((2 : Int), ((b_Slots.getD c_Slot.toNat ((0 : Int), ((0 : Int), ((List.replicate 32 (0 : Int)), (List.replicate 32 (0 : Int)))))).2.1, ((b_Slots.getD c_Slot.toNat ((0 : Int), ((0 : Int), ((List.replicate 32 (0 : Int)), (List.replicate 32 (0 : Int)))))).2.2.1, (b_Slots.getD c_Slot.toNat ((0 : Int), ((0 : Int), ((List.replicate 32 (0 : Int)), (List.replicate 32 (0 : Int)))))).2.2.2)))).getD c_Slot.toNat ((0 : Int), ((0 : Int), ((List.replicate 32 (0 : Int)), (List.replicate 32 (0 : Int)))))).1, (x_5, (((b_Slots.set c_Slot.toNat ((2 : Int), ((b_Slots.getD c_Slot.toNat ((0 : Int), ((0 : Int), ((List.replicate 32 (0 : Int)), (List.replicate 32 (0 : Int)))))).2.1, ((b_Slots.getD c_Slot.toNat ((0 : Int), ((0 : Int), ((List.replicate 32 (0 : Int)), (List.replicate 32 (0 : Int)))))).2.2.1, (b_Slots.getD c_Slot.toNat ((0 : Int), ((0 : Int), ((List.replicate 32 (0 : Int)), (List.replicate 32 (0 : Int)))))).2.2.2)))).getD c_Slot.toNat ((0 : Int), ((0 : Int), ((List.replicate 32 (0 : Int)), (List.replicate 32 (0 : Int)))))).2.2.1, ((b_Slots.set c_Slot.toNat ((2 : Int), ((b_Slots.getD c_Slot.toNat ((0 : Int), ((0 : Int), ((List.replicate 32 (0 : Int)), (List.replicate 32 (0 : Int)))))).2.1, ((b_Slots.getD c_Slot.toNat ((0 : Int), ((0 : Int), ((List.replicate 32 (0 : Int)), (List.replicate 32 (0 : Int)))))).2.2.1, (b_Slots.getD c_Slot.toNat ((0 : Int), ((0 : Int), ((List.replicate 32 (0 : Int)), (List.replicate 32 (0 : Int)))))).2.2.2)))).getD c_Slot.toNat ((0 : Int), ((0 : Int), ((List.replicate 32 (0 : Int)), (List.replicate 32 (0 : Int)))))).2.2.2)))).getD c_Slot.toNat ((0 : Int), ((0 : Int), ((List.replicate 32 (0 : Int)), (List.replicate 32 (0 : Int)))))).2.2.1).set 1 (1 : Int)), (((b_Slots.set c_Slot.toNat ((2 : Int), ((b_Slots.getD c_Slot.toNat ((0 : Int), ((0 : Int), ((List.replicate 32 (0 : Int)), (List.replicate 32 (0 : Int)))))).2.1, ((b_Slots.getD c_Slot.toNat ((0 : Int), ((0 : Int), ((List.replicate 32 (0 : Int)), (List.replicate 32 (0 : Int)))))).2.2.1, (b_Slots.getD c_Slot.toNat ((0 : Int), ((0 : Int), ((List.replicate 32 (0 : Int)), (List.replicate 32 (0 : Int)))))).2.2.2)))).set c_Slot.toNat (((b_Slots.set c_Slot.toNat ((2 : Int), ((b_Slots.getD c_Slot.toNat ((0 : Int), ((0 : Int), ((List.replicate 32 (0 : Int)), (List.replicate 32 (0 : Int)))))).2.1, ((b_Slots.getD c_Slot.toNat ((0 : Int), ((0 : Int), ((List.replicate 32 (0 : Int)), (List.replicate 32 (0 : Int)))))).2.2.1, (b_Slots.getD c_Slot.toNat ((0 : Int), ((0 : Int), ((List.replicate 32 (0 : Int)), (List.replicate 32 (0 : Int)))))).2.2.2)))).getD c_Slot.toNat ((0 : Int), ((0 : Int), ((List.replicate 32 (0 : Int)), (List.replicate 32 (0 : Int)))))).1, (x_5, (((b_Slots.set c_Slot.toNat ((2 : Int), ((b_Slots.getD c_Slot.toNat ((0 : Int), ((0 : Int), ((List.replicate 32 (0 : Int)), (List.replicate 32 (0 : Int)))))).2.1, ((b_Slots.getD c_Slot.toNat ((0 : Int), ((0 : Int), ((List.replicate 32 (0 : Int)), (List.replicate 32 (0 : Int)))))).2.2.1, (b_Slots.getD c_Slot.toNat ((0 : Int), ((0 : Int), ((List.replicate 32 (0 : Int)), (List.replicate 32 (0 : Int)))))).2.2.2)))).getD c_Slot.toNat ((0 : Int), ((0 : Int), ((List.replicate 32 (0 : Int)), (List.replicate 32 (0 : Int)))))).2.2.1, ((b_Slots.set c_Slot.toNat ((2 : Int), ((b_Slots.getD c_Slot.toNat ((0 : Int), ((0 : Int), ((List.replicate 32 (0 : Int)), (List.replicate 32 (0 : Int)))))).2.1, ((b_Slots.getD c_Slot.toNat ((0 : Int), ((0 : Int), ((List.replicate 32 (0 : Int)), (List.replicate 32 (0 : Int)))))).2.2.1, (b_Slots.getD c_Slot.toNat ((0 : Int), ((0 : Int), ((List.replicate 32 (0 : Int)), (List.replicate 32 (0 : Int)))))).2.2.2)))).getD c_Slot.toNat ((0 : Int), ((0 : Int), ((List.replicate 32 (0 : Int)), (List.replicate 32 (0 : Int)))))).2.2.2)))).getD c_Slot.toNat ((0 : Int), ((0 : Int), ((List.replicate 32 (0 : Int)), (List.replicate 32 (0 : Int)))))).2.2.2))))) h ?_
                          kernel_rfl
                  · refine TS.cond (c_Kind == (4 : Int)) ?_ (fun e => by rw [c23] at e; cases e) (fun e => ?_)
                    · kernel_rfl
                    refine TS.seq ?_
                    have hq : (True) ∧ ((True) ∧ ((True) ∧ ((True) ∧ (True)))) := ⟨trivial, ⟨trivial, ⟨trivial, ⟨trivial, trivial⟩⟩⟩⟩
                    refine TS.reg [] ?_ ?_
                    · apply prop_of ?_ hq
                      kernel_rfl
                    refine XS.then ?_
                    rcases bif_some h with ⟨c33, h⟩ | ⟨c34, h⟩
                    · refine TS.cond (c_Kind == (5 : Int)) ?_ (fun e => ?_) (fun e => by rw [c33] at e; cases e)
                      · kernel_rfl
                      refine TS.opsOf ?_
                      have hq : (True) ∧ ((True) ∧ ((True) ∧ (True))) := ⟨trivial, ⟨trivial, ⟨trivial, trivial⟩⟩⟩
                      refine TOS.run 3 [] (by kernel_rfl) ?_ ?_
                      · apply prop_of ?_ hq
                        kernel_rfl
                      refine TOS.call 63 (mkMask 95 [2, 3, 4, 7, 11]) Try.func63 rfl ?_
                      intro fv13
                      refine ⟨(mkTs 69 [(0, (.ptr 3 [.fld 0 0, .idx c_Slot.toNat 66])), (1, (.int .i64 c_Arg))], [(.box 36 (.st (.arr 9 (.st (.pair (.int .i64) (.pair (.int .i64) (.pair (.arr 32 (.int .i64)) (.arr 32 (.int .i64)))))) b_Slots))), (.box 23 (.st (.cons (.int .i64 c_Kind) (.cons (.int .i64 c_Slot) (.cons (.int .i64 c_End) (.int .i64 c_Arg)))))), (.box 36 (.st (.arr 9 (.st (.pair (.int .i64) (.pair (.int .i64) (.pair (.arr 32 (.int .i64)) (.arr 32 (.int .i64)))))) (List.replicate 9 ((0 : Int), ((0 : Int), ((List.replicate 32 (0 : Int)), (List.replicate 32 (0 : Int))))))))), (.box 36 (.st (.arr 9 (.st (.pair (.int .i64) (.pair (.int .i64) (.pair (.arr 32 (.int .i64)) (.arr 32 (.int .i64)))))) b_Slots))), (.sav (mkTs 95 [(2, (.ptr 0 [])), (3, (.ptr 1 [])), (4, (.ptr 2 [])), (7, (.ptr 3 [])), (11, (.int .i64 (1 : Int)))]) fv13)]), by kernel_rfl, ?_⟩
                      refine TS.seq ?_
                      have hq : (True) ∧ (True) := ⟨trivial, trivial⟩
                      refine TS.reg [] ?_ ?_
                      · apply prop_of ?_ hq
                        kernel_rfl
                      refine XS.then ?_
                      refine TS.seq ?_
                      refine TS.block ?_
                      refine TS.seq ?_
                      refine TS.cut (D := Bool) (fun d => match d with | next => (mkTs 69 [(0, (.ptr 4 [.fld 0 0, .idx c_Slot.toNat 66])), (1, (.int .i64 c_Arg)), (7, (.bool next))], [(.sav (mkTs 95 [(2, (.ptr 1 [])), (3, (.ptr 2 [])), (4, (.ptr 3 [])), (7, (.ptr 4 [])), (11, (.int .i64 (1 : Int)))]) fv13), (.box 36 (.st (.arr 9 (.st (.pair (.int .i64) (.pair (.int .i64) (.pair (.arr 32 (.int .i64)) (.arr 32 (.int .i64)))))) b_Slots))), (.box 23 (.st (.cons (.int .i64 c_Kind) (.cons (.int .i64 c_Slot) (.cons (.int .i64 c_End) (.int .i64 c_Arg)))))), (.box 36 (.st (.arr 9 (.st (.pair (.int .i64) (.pair (.int .i64) (.pair (.arr 32 (.int .i64)) (.arr 32 (.int .i64)))))) (List.replicate 9 ((0 : Int), ((0 : Int), ((List.replicate 32 (0 : Int)), (List.replicate 32 (0 : Int))))))))), (.box 36 (.st (.arr 9 (.st (.pair (.int .i64) (.pair (.int .i64) (.pair (.arr 32 (.int .i64)) (.arr 32 (.int .i64)))))) b_Slots)))])) (fun d => F21_j83 n b_Slots c_Slot c_Arg d = some r) ?_ ?_
                      · rintro next h
                        replace h : (bif next then (F21_j71 n b_Slots c_Slot ((17 : Int), b_Slots)) else (bif ((b_Slots.getD c_Slot.toNat ((0 : Int), ((0 : Int), ((List.replicate 32 (0 : Int)), (List.replicate 32 (0 : Int)))))).1 == (1 : Int)) then (F21_j71 n b_Slots c_Slot ((19 : Int), b_Slots)) else (loopF (F21_l84 n b_Slots c_Slot c_Arg) n ((2 : Int), b_Slots)))) = some r := h
                        refine XS.then ?_
                        rcases bif_some h with ⟨c35, h⟩ | ⟨c36, h⟩
                        · refine TS.cond next ?_ (fun e => ?_) (fun e => by rw [c35] at e; cases e)
                          · kernel_rfl
                          refine TS.seq ?_
                          have hq : (True) ∧ (True) := ⟨trivial, trivial⟩
                          refine TS.reg [] ?_ ?_
                          · apply prop_of ?_ hq
                            kernel_rfl
                          refine XS.then ?_
                          refine TS.ret ?_
                          refine XS.blockRet ?_
                          refine XS.passR ?_
                          refine XS.backR 0 (mkTs 95 [(2, (.ptr 1 [])), (3, (.ptr 2 [])), (4, (.ptr 3 [])), (7, (.ptr 4 [])), (11, (.int .i64 (1 : Int)))]) (mkTs 95 [(2, (.ptr 1 [])), (3, (.ptr 2 [])), (4, (.ptr 3 [])), (7, (.ptr 4 [])), (11, (.int .i64 (1 : Int))), (87, (.int .i64 (17 : Int)))], [.dead, (.box 36 (.st (.arr 9 (.st (.pair (.int .i64) (.pair (.int .i64) (.pair (.arr 32 (.int .i64)) (.arr 32 (.int .i64)))))) b_Slots))), (.box 23 (.st (.cons (.int .i64 c_Kind) (.cons (.int .i64 c_Slot) (.cons (.int .i64 c_End) (.int .i64 c_Arg)))))), (.box 36 (.st (.arr 9 (.st (.pair (.int .i64) (.pair (.int .i64) (.pair (.arr 32 (.int .i64)) (.arr 32 (.int .i64)))))) (List.replicate 9 ((0 : Int), ((0 : Int), ((List.replicate 32 (0 : Int)), (List.replicate 32 (0 : Int))))))))), (.box 36 (.st (.arr 9 (.st (.pair (.int .i64) (.pair (.int .i64) (.pair (.arr 32 (.int .i64)) (.arr 32 (.int .i64)))))) b_Slots)))]) ((True) ∧ (True)) (by kernel_rfl) (by kernel_rfl) ⟨trivial, trivial⟩ ?_
                          refine KS.opsOf ?_
                          have hq : (True) ∧ (True) := ⟨trivial, trivial⟩
                          refine TOS.run 1 [] (by kernel_rfl) ?_ ?_
                          · apply prop_of ?_ hq
                            kernel_rfl
                          refine TOS.nil (by kernel_rfl) ?_
                          refine XS.blockEnd ?_
                          refine XS.reAny [1, 2, 3, 4] (mkMask 95 [2, 3, 4, 7, 11]) ((17 : Int), b_Slots) h ?_
                          kernel_rfl
                        · refine TS.cond next ?_ (fun e => by rw [c36] at e; cases e) (fun e => ?_)
                          · kernel_rfl
                          refine TS.seq ?_
                          have hq : (True) ∧ ((True) ∧ ((True) ∧ ((c_Slot.toNat < 9 ∧ (True)) ∧ ((True) ∧ ((True) ∧ (True)))))) := ⟨trivial, ⟨trivial, ⟨trivial, ⟨⟨inR_lt (inb_ok t15), trivial⟩, ⟨trivial, ⟨trivial, trivial⟩⟩⟩⟩⟩⟩
                          refine TS.reg [] ?_ ?_
                          · apply prop_of ?_ hq
                            kernel_rfl
                          refine XS.then ?_
                          rcases bif_some h with ⟨c37, h⟩ | ⟨c38, h⟩
                          · refine TS.cond ((b_Slots.getD c_Slot.toNat ((0 : Int), ((0 : Int), ((List.replicate 32 (0 : Int)), (List.replicate 32 (0 : Int)))))).1 == (1 : Int)) ?_ (fun e => ?_) (fun e => by rw [c37] at e; cases e)
                            · kernel_rfl
                            refine TS.seq ?_
                            have hq : (True) ∧ (True) := ⟨trivial, trivial⟩
                            refine TS.reg [] ?_ ?_
                            · apply prop_of ?_ hq
                              kernel_rfl
                            refine XS.then ?_
                            refine TS.ret ?_
                            refine XS.blockRet ?_
                            refine XS.passR ?_
                            refine XS.backR 0 (mkTs 95 [(2, (.ptr 1 [])), (3, (.ptr 2 [])), (4, (.ptr 3 [])), (7, (.ptr 4 [])), (11, (.int .i64 (1 : Int)))]) (mkTs 95 [(2, (.ptr 1 [])), (3, (.ptr 2 [])), (4, (.ptr 3 [])), (7, (.ptr 4 [])), (11, (.int .i64 (1 : Int))), (87, (.int .i64 (19 : Int)))], [.dead, (.box 36 (.st (.arr 9 (.st (.pair (.int .i64) (.pair (.int .i64) (.pair (.arr 32 (.int .i64)) (.arr 32 (.int .i64)))))) b_Slots))), (.box 23 (.st (.cons (.int .i64 c_Kind) (.cons (.int .i64 c_Slot) (.cons (.int .i64 c_End) (.int .i64 c_Arg)))))), (.box 36 (.st (.arr 9 (.st (.pair (.int .i64) (.pair (.int .i64) (.pair (.arr 32 (.int .i64)) (.arr 32 (.int .i64)))))) (List.replicate 9 ((0 : Int), ((0 : Int), ((List.replicate 32 (0 : Int)), (List.replicate 32 (0 : Int))))))))), (.box 36 (.st (.arr 9 (.st (.pair (.int .i64) (.pair (.int .i64) (.pair (.arr 32 (.int .i64)) (.arr 32 (.int .i64)))))) b_Slots)))]) ((True) ∧ (True)) (by kernel_rfl) (by kernel_rfl) ⟨trivial, trivial⟩ ?_
                            refine KS.opsOf ?_
                            have hq : (True) ∧ (True) := ⟨trivial, trivial⟩
                            refine TOS.run 1 [] (by kernel_rfl) ?_ ?_
                            · apply prop_of ?_ hq
                              kernel_rfl
                            refine TOS.nil (by kernel_rfl) ?_
                            refine XS.blockEnd ?_
                            refine XS.reAny [1, 2, 3, 4] (mkMask 95 [2, 3, 4, 7, 11]) ((19 : Int), b_Slots) h ?_
                            kernel_rfl
                          · refine TS.cond ((b_Slots.getD c_Slot.toNat ((0 : Int), ((0 : Int), ((List.replicate 32 (0 : Int)), (List.replicate 32 (0 : Int)))))).1 == (1 : Int)) ?_ (fun e => by rw [c38] at e; cases e) (fun e => ?_)
                            · kernel_rfl
                            refine TS.skip ?_
                            refine XS.blockEnd ?_
                            refine XS.then ?_
                            refine TS.seq ?_
                            refine TS.seq ?_
                            have hq : (True) ∧ (True) := ⟨trivial, trivial⟩
                            refine TS.reg [] ?_ ?_
                            · apply prop_of ?_ hq
                              kernel_rfl
                            refine XS.then ?_
                            refine TS.block ?_
                            refine TS.reLoop [0, 1, 2, 3, 4] (mkMask 69 [0, 1, 5]) (D := Int × (List (Int × Int × (List Int) × List Int))) (fun d => match d with | (x_10, m4) => (mkTs 69 [(0, (.ptr 4 [.fld 0 0, .idx c_Slot.toNat 66])), (1, (.int .i64 c_Arg)), (5, (.int .i64 x_10))], [(.sav (mkTs 95 [(2, (.ptr 1 [])), (3, (.ptr 2 [])), (4, (.ptr 3 [])), (7, (.ptr 4 [])), (11, (.int .i64 (1 : Int)))]) fv13), (.box 36 (.st (.arr 9 (.st (.pair (.int .i64) (.pair (.int .i64) (.pair (.arr 32 (.int .i64)) (.arr 32 (.int .i64)))))) b_Slots))), (.box 23 (.st (.cons (.int .i64 c_Kind) (.cons (.int .i64 c_Slot) (.cons (.int .i64 c_End) (.int .i64 c_Arg)))))), (.box 36 (.st (.arr 9 (.st (.pair (.int .i64) (.pair (.int .i64) (.pair (.arr 32 (.int .i64)) (.arr 32 (.int .i64)))))) (List.replicate 9 ((0 : Int), ((0 : Int), ((List.replicate 32 (0 : Int)), (List.replicate 32 (0 : Int))))))))), (.box 36 (.st (.arr 9 (.st (.pair (.int .i64) (.pair (.int .i64) (.pair (.arr 32 (.int .i64)) (.arr 32 (.int .i64)))))) m4)))])) (fun n' d => loopF (F21_l84 n b_Slots c_Slot c_Arg) n' d = some r) n ((2 : Int), b_Slots) h ?_ (fun d => loopF_zero _ d r) ?_
                            · kernel_rfl
                            · rintro n84 ⟨x_10, m4⟩ h
                              replace h : (bif (decide (x_10 < (32 : Int))) then (bif (decide (0 ≤ (IntKind.wrap .u64 (x_10)))) then (bif (!((bitsI .and .i64 (shrI .i64 c_Arg (IntKind.wrap .u64 (x_10))) (1 : Int)) == (1 : Int))) then (bif inb x_10 32 then ((loopF (F21_l84 n b_Slots c_Slot c_Arg) n84) ((IntKind.wrap .i64 (x_10 + (1 : Int))), ((m4.set c_Slot.toNat ((m4.getD c_Slot.toNat ((0 : Int), ((0 : Int), ((List.replicate 32 (0 : Int)), (List.replicate 32 (0 : Int)))))).1, ((m4.getD c_Slot.toNat ((0 : Int), ((0 : Int), ((List.replicate 32 (0 : Int)), (List.replicate 32 (0 : Int)))))).2.1, ((((m4.getD c_Slot.toNat ((0 : Int), ((0 : Int), ((List.replicate 32 (0 : Int)), (List.replicate 32 (0 : Int)))))).2.2.1).set x_10.toNat (0 : Int)), (m4.getD c_Slot.toNat ((0 : Int), ((0 : Int), ((List.replicate 32 (0 : Int)), (List.replicate 32 (0 : Int)))))).2.2.2)))).set c_Slot.toNat (((m4.set c_Slot.toNat ((m4.getD c_Slot.toNat ((0 : Int), ((0 : Int), ((List.replicate 32 (0 : Int)), (List.replicate 32 (0 : Int)))))).1, ((m4.getD c_Slot.toNat ((0 : Int), ((0 : Int), ((List.replicate 32 (0 : Int)), (List.replicate 32 (0 : Int)))))).2.1, ((((m4.getD c_Slot.toNat ((0 : Int), ((0 : Int), ((List.replicate 32 (0 : Int)), (List.replicate 32 (0 : Int)))))).2.2.1).set x_10.toNat (0 : Int)), (m4.getD c_Slot.toNat ((0 : Int), ((0 : Int), ((List.replicate 32 (0 : Int)), (List.replicate 32 (0 : Int)))))).2.2.2)))).getD c_Slot.toNat ((0 : Int), ((0 : Int), ((List.replicate 32 (0 : Int)), (List.replicate 32 (0 : Int)))))).1, (((m4.set c_Slot.toNat ((m4.getD c_Slot.toNat ((0 : Int), ((0 : Int), ((List.replicate 32 (0 : Int)), (List.replicate 32 (0 : Int)))))).1, ((m4.getD c_Slot.toNat ((0 : Int), ((0 : Int), ((List.replicate 32 (0 : Int)), (List.replicate 32 (0 : Int)))))).2.1, ((((m4.getD c_Slot.toNat ((0 : Int), ((0 : Int), ((List.replicate 32 (0 : Int)), (List.replicate 32 (0 : Int)))))).2.2.1).set x_10.toNat (0 : Int)), (m4.getD c_Slot.toNat ((0 : Int), ((0 : Int), ((List.replicate 32 (0 : Int)), (List.replicate 32 (0 : Int)))))).2.2.2)))).getD c_Slot.toNat ((0 : Int), ((0 : Int), ((List.replicate 32 (0 : Int)), (List.replicate 32 (0 : Int)))))).2.1, (((m4.set c_Slot.toNat ((m4.getD c_Slot.toNat ((0 : Int), ((0 : Int), ((List.replicate 32 (0 : Int)), (List.replicate 32 (0 : Int)))))).1, ((m4.getD c_Slot.toNat ((0 : Int), ((0 : Int), ((List.replicate 32 (0 : Int)), (List.replicate 32 (0 : Int)))))).2.1, ((((m4.getD c_Slot.toNat ((0 : Int), ((0 : Int), ((List.replicate 32 (0 : Int)), (List.replicate 32 (0 : Int)))))).2.2.1).set x_10.toNat (0 : Int)), (m4.getD c_Slot.toNat ((0 : Int), ((0 : Int), ((List.replicate 32 (0 : Int)), (List.replicate 32 (0 : Int)))))).2.2.2)))).getD c_Slot.toNat ((0 : Int), ((0 : Int), ((List.replicate 32 (0 : Int)), (List.replicate 32 (0 : Int)))))).2.2.1, ((((m4.set c_Slot.toNat ((m4.getD c_Slot.toNat ((0 : Int), ((0 : Int), ((List.replicate 32 (0 : Int)), (List.replicate 32 (0 : Int)))))).1, ((m4.getD c_Slot.toNat ((0 : Int), ((0 : Int), ((List.replicate 32 (0 : Int)), (List.replicate 32 (0 : Int)))))).2.1, ((((m4.getD c_Slot.toNat ((0 : Int), ((0 : Int), ((List.replicate 32 (0 : Int)), (List.replicate 32 (0 : Int)))))).2.2.1).set x_10.toNat (0 : Int)), (m4.getD c_Slot.toNat ((0 : Int), ((0 : Int), ((List.replicate 32 (0 : Int)), (List.replicate 32 (0 : Int)))))).2.2.2)))).getD c_Slot.toNat ((0 : Int), ((0 : Int), ((List.replicate 32 (0 : Int)), (List.replicate 32 (0 : Int)))))).2.2.2).set x_10.toNat (0 : Int)))))))) else none) else (bif inb x_10 32 then (bif ((((m4.getD c_Slot.toNat ((0 : Int), ((0 : Int), ((List.replicate 32 (0 : Int)), (List.replicate 32 (0 : Int)))))).2.2.1).getD x_10.toNat (0 : Int)) == (0 : Int)) then ((loopF (F21_l84 n b_Slots c_Slot c_Arg) n84) ((IntKind.wrap .i64 (x_10 + (1 : Int))), (m4.set c_Slot.toNat ((m4.getD c_Slot.toNat ((0 : Int), ((0 : Int), ((List.replicate 32 (0 : Int)), (List.replicate 32 (0 : Int)))))).1, ((m4.getD c_Slot.toNat ((0 : Int), ((0 : Int), ((List.replicate 32 (0 : Int)), (List.replicate 32 (0 : Int)))))).2.1, ((((m4.getD c_Slot.toNat ((0 : Int), ((0 : Int), ((List.replicate 32 (0 : Int)), (List.replicate 32 (0 : Int)))))).2.2.1).set x_10.toNat (1 : Int)), (m4.getD c_Slot.toNat ((0 : Int), ((0 : Int), ((List.replicate 32 (0 : Int)), (List.replicate 32 (0 : Int)))))).2.2.2)))))) else ((loopF (F21_l84 n b_Slots c_Slot c_Arg) n84) ((IntKind.wrap .i64 (x_10 + (1 : Int))), m4))) else none)) else none) else (bif (c_Arg == (0 : Int)) then (F21_j71 n b_Slots c_Slot ((1 : Int), ((m4.set c_Slot.toNat ((3 : Int), ((m4.getD c_Slot.toNat ((0 : Int), ((0 : Int), ((List.replicate 32 (0 : Int)), (List.replicate 32 (0 : Int)))))).2.1, ((m4.getD c_Slot.toNat ((0 : Int), ((0 : Int), ((List.replicate 32 (0 : Int)), (List.replicate 32 (0 : Int)))))).2.2.1, (m4.getD c_Slot.toNat ((0 : Int), ((0 : Int), ((List.replicate 32 (0 : Int)), (List.replicate 32 (0 : Int)))))).2.2.2)))).set c_Slot.toNat ((2 : Int), (((m4.set c_Slot.toNat ((3 : Int), ((m4.getD c_Slot.toNat ((0 : Int), ((0 : Int), ((List.replicate 32 (0 : Int)), (List.replicate 32 (0 : Int)))))).2.1, ((m4.getD c_Slot.toNat ((0 : Int), ((0 : Int), ((List.replicate 32 (0 : Int)), (List.replicate 32 (0 : Int)))))).2.2.1, (m4.getD c_Slot.toNat ((0 : Int), ((0 : Int), ((List.replicate 32 (0 : Int)), (List.replicate 32 (0 : Int)))))).2.2.2)))).getD c_Slot.toNat ((0 : Int), ((0 : Int), ((List.replicate 32 (0 : Int)), (List.replicate 32 (0 : Int)))))).2.1, (((m4.set c_Slot.toNat ((3 : Int), ((m4.getD c_Slot.toNat ((0 : Int), ((0 : Int), ((List.replicate 32 (0 : Int)), (List.replicate 32 (0 : Int)))))).2.1, ((m4.getD c_Slot.toNat ((0 : Int), ((0 : Int), ((List.replicate 32 (0 : Int)), (List.replicate 32 (0 : Int)))))).2.2.1, (m4.getD c_Slot.toNat ((0 : Int), ((0 : Int), ((List.replicate 32 (0 : Int)), (List.replicate 32 (0 : Int)))))).2.2.2)))).getD c_Slot.toNat ((0 : Int), ((0 : Int), ((List.replicate 32 (0 : Int)), (List.replicate 32 (0 : Int)))))).2.2.1, ((m4.set c_Slot.toNat ((3 : Int), ((m4.getD c_Slot.toNat ((0 : Int), ((0 : Int), ((List.replicate 32 (0 : Int)), (List.replicate 32 (0 : Int)))))).2.1, ((m4.getD c_Slot.toNat ((0 : Int), ((0 : Int), ((List.replicate 32 (0 : Int)), (List.replicate 32 (0 : Int)))))).2.2.1, (m4.getD c_Slot.toNat ((0 : Int), ((0 : Int), ((List.replicate 32 (0 : Int)), (List.replicate 32 (0 : Int)))))).2.2.2)))).getD c_Slot.toNat ((0 : Int), ((0 : Int), ((List.replicate 32 (0 : Int)), (List.replicate 32 (0 : Int)))))).2.2.2)))))) else (F21_j71 n b_Slots c_Slot ((1 : Int), (m4.set c_Slot.toNat ((3 : Int), ((m4.getD c_Slot.toNat ((0 : Int), ((0 : Int), ((List.replicate 32 (0 : Int)), (List.replicate 32 (0 : Int)))))).2.1, ((m4.getD c_Slot.toNat ((0 : Int), ((0 : Int), ((List.replicate 32 (0 : Int)), (List.replicate 32 (0 : Int)))))).2.2.1, (m4.getD c_Slot.toNat ((0 : Int), ((0 : Int), ((List.replicate 32 (0 : Int)), (List.replicate 32 (0 : Int)))))).2.2.2)))))))) = some r := h
                              refine TS.seq ?_
                              refine TS.seq ?_
                              have hq : (True) ∧ ((True) ∧ (True)) := ⟨trivial, ⟨trivial, trivial⟩⟩
                              refine TS.reg [] ?_ ?_
                              · apply prop_of ?_ hq
                                kernel_rfl
                              refine XS.then ?_
                              rcases bif_some h with ⟨c39, h⟩ | ⟨c40, h⟩
                              · refine TS.cond (decide (x_10 < (32 : Int))) ?_ (fun e => ?_) (fun e => by rw [c39] at e; cases e)
                                · kernel_rfl
                                refine TS.skip ?_
                                refine XS.then ?_
                                refine TS.seq ?_
                                refine TS.block ?_
                                refine TS.seq ?_
                                obtain ⟨t41, h⟩ := test_some h
                                have hq : (True) ∧ ((True) ∧ ((True) ∧ ((0 ≤ (IntKind.wrap .u64 (x_10))) ∧ ((True) ∧ ((True) ∧ ((True) ∧ (True))))))) := ⟨trivial, ⟨trivial, ⟨trivial, ⟨of_decide_eq_true t41, ⟨trivial, ⟨trivial, ⟨trivial, trivial⟩⟩⟩⟩⟩⟩⟩
                                refine TS.reg [] ?_ ?_
                                · apply prop_of ?_ hq
                                  kernel_rfl
                                refine XS.then ?_
                                refine TS.block ?_
                                refine TS.seq ?_
                                have hq : (True) ∧ ((True) ∧ ((True) ∧ (True))) := ⟨trivial, ⟨trivial, ⟨trivial, trivial⟩⟩⟩
                                refine TS.reg [] ?_ ?_
                                · apply prop_of ?_ hq
                                  kernel_rfl
                                refine XS.then ?_
                                rcases bif_some h with ⟨c42, h⟩ | ⟨c43, h⟩
                                · refine TS.cond (!((bitsI .and .i64 (shrI .i64 c_Arg (IntKind.wrap .u64 (x_10))) (1 : Int)) == (1 : Int))) ?_ (fun e => ?_) (fun e => by rw [c42] at e; cases e)
                                  · kernel_rfl
                                  obtain ⟨t44, h⟩ := test_some h
                                  have hq : ((True) ∧ ((True) ∧ ((True) ∧ ((True) ∧ ((True) ∧ ((True) ∧ ((inR x_10 32) ∧ ((c_Slot.toNat < 9 ∧ (x_10.toNat < 32 ∧ (True))) ∧ ((True) ∧ ((True) ∧ ((inR x_10 32) ∧ (True)))))))))))) ∧ ((c_Slot.toNat < 9 ∧ (x_10.toNat < 32 ∧ (True))) ∧ (True)) := ⟨⟨trivial, ⟨trivial, ⟨trivial, ⟨trivial, ⟨trivial, ⟨trivial, ⟨inb_ok t44, ⟨⟨inR_lt (inb_ok t15), ⟨inR_lt (inb_ok t44), trivial⟩⟩, ⟨trivial, ⟨trivial, ⟨inb_ok t44, trivial⟩⟩⟩⟩⟩⟩⟩⟩⟩⟩⟩, ⟨⟨inR_lt (inb_ok t15), ⟨inR_lt (inb_ok t44), trivial⟩⟩, trivial⟩⟩
                                  refine TS.draw 11 [(7, 4)] [] (by kernel_rfl) ?_ ?_
                                  · apply prop_of ?_ hq
                                    kernel_rfl
                                  refine XS.blockEnd ?_
                                  refine XS.blockEnd ?_
                                  refine XS.then ?_
                                  have hq : (True) ∧ ((True) ∧ ((True) ∧ (True))) := ⟨trivial, ⟨trivial, ⟨trivial, trivial⟩⟩⟩
                                  refine TS.reg [] ?_ ?_
                                  · apply prop_of ?_ hq
                                    kernel_rfl
                                  refine XS.reAny [0, 1, 2, 3, 4] (mkMask 69 [0, 1, 5]) ((IntKind.wrap .i64 (x_10 + (1 : Int))), ((m4.set c_Slot.toNat ((m4.getD c_Slot.toNat ((0 : Int), ((0 : Int), ((List.replicate 32 (0 : Int)), (List.replicate 32 (0 : Int)))))).1, ((m4.getD c_Slot.toNat ((0 : Int), ((0 : Int), ((List.replicate 32 (0 : Int)), (List.replicate 32 (0 : Int)))))).2.1, ((((m4.getD c_Slot.toNat ((0 : Int), ((0 : Int), ((List.replicate 32 (0 : Int)), (List.replicate 32 (0 : Int)))))).2.2.1).set x_10.toNat (0 : Int)), (m4.getD c_Slot.toNat ((0 : Int), ((0 : Int), ((List.replicate 32 (0 : Int)), (List.replicate 32 (0 : Int)))))).2.2.2)))).set c_Slot.toNat (((m4.set c_Slot.toNat ((m4.getD c_Slot.toNat ((0 : Int), ((0 : Int), ((List.replicate 32 (0 : Int)), (List.replicate 32 (0 : Int)))))).1, ((m4.getD c_Slot.toNat ((0 : Int), ((0 : Int), ((List.replicate 32 (0 : Int)), (List.replicate 32 (0 : Int)))))).2.1, ((((m4.getD c_Slot.toNat ((0 : Int), ((0 : Int), ((List.replicate 32 (0 : Int)), (List.replicate 32 (0 : Int)))))).2.2.1).set x_10.toNat (0 : Int)), (m4.getD c_Slot.toNat ((0 : Int), ((0 : Int), ((List.replicate 32 (0 : Int)), (List.replicate 32 (0 : Int)))))).2.2.2)))).getD c_Slot.toNat ((0 : Int), ((0 : Int), ((List.replicate 32 (0 : Int)), (List.replicate 32 (0 : Int)))))).1, (((m4.set c_Slot.toNat ((m4.getD c_Slot.toNat ((0 : Int), ((0 : Int), ((List.replicate 32 (0 : Int)), (List.replicate 32 (0 : Int)))))).1, ((m4.getD c_Slot.toNat ((0 : Int), ((0 : Int), ((List.replicate 32 (0 : Int)), (List.replicate 32 (0 : Int)))))).2.1, ((((m4.getD c_Slot.toNat ((0 : Int), ((0 : Int), ((List.replicate 32 (0 : Int)), (List.replicate 32 (0 : Int)))))).2.2.1).set x_10.toNat (0 : Int)), (m4.getD c_Slot.toNat ((0 : Int), ((0 : Int), ((List.replicate 32 (0 : Int)), (List.replicate 32 (0 : Int)))))).2.2.2)))).getD c_Slot.toNat ((0 : Int), ((0 : Int), ((List.replicate 32 (0 : Int)), (List.replicate 32 (0 : Int)))))).2.1, (((m4.set c_Slot.toNat ((m4.getD c_Slot.toNat ((0 : Int), ((0 : Int), ((List.replicate 32 (0 : Int)), (List.replicate 32 (0 : Int)))))).1, ((m4.getD c_Slot.toNat ((0 : Int), ((0 : Int), ((List.replicate 32 (0 : Int)), (List.replicate 32 (0 : Int)))))).2.1, ((((m4.getD c_Slot.toNat ((0 : Int), ((0 : Int), ((List.replicate 32 (0 : Int)), (List.replicate 32 (0 : Int)))))).2.2.1).set x_10.toNat (0 : Int)), (m4.getD c_Slot.toNat ((0 : Int), ((0 : Int), ((List.replicate 32 (0 : Int)), (List.replicate 32 (0 : Int)))))).2.2.2)))).getD c_Slot.toNat ((0 : Int), ((0 : Int), ((List.replicate 32 (0 : Int)), (List.replicate 32 (0 : Int)))))).2.2.1, ((((m4.set c_Slot.toNat ((m4.getD c_Slot.toNat ((0 : Int), ((0 : Int), ((List.replicate 32 (0 : Int)), (List.replicate 32 (0 : Int)))))).1, ((m4.getD c_Slot.toNat ((0 : Int), ((0 : Int), ((List.replicate 32 (0 : Int)), (List.replicate 32 (0 : Int)))))).2.1, ((((m4.getD c_Slot.toNat ((0 : Int), ((0 : Int), ((List.replicate 32 (0 : Int)), (List.replicate 32 (0 : Int)))))).2.2.1).set x_10.toNat (0 : Int)), (m4.getD c_Slot.toNat ((0 : Int), ((0 : Int), ((List.replicate 32 (0 : Int)), (List.replicate 32 (0 : Int)))))).2.2.2)))).getD c_Slot.toNat ((0 : Int), ((0 : Int), ((List.replicate 32 (0 : Int)), (List.replicate 32 (0 : Int)))))).2.2.2).set x_10.toNat (0 : Int))))))) h ?_
                                  kernel_rfl
                                · refine TS.cond (!((bitsI .and .i64 (shrI .i64 c_Arg (IntKind.wrap .u64 (x_10))) (1 : Int)) == (1 : Int))) ?_ (fun e => by rw [c43] at e; cases e) (fun e => ?_)
                                  · kernel_rfl
                                  refine TS.seq ?_
                                  obtain ⟨t45, h⟩ := test_some h
                                  have hq : (True) ∧ ((True) ∧ ((True) ∧ ((True) ∧ ((inR x_10 32) ∧ ((c_Slot.toNat < 9 ∧ (x_10.toNat < 32 ∧ (True))) ∧ ((True) ∧ ((True) ∧ (True)))))))) := ⟨trivial, ⟨trivial, ⟨trivial, ⟨trivial, ⟨inb_ok t45, ⟨⟨inR_lt (inb_ok t15), ⟨inR_lt (inb_ok t45), trivial⟩⟩, ⟨trivial, ⟨trivial, trivial⟩⟩⟩⟩⟩⟩⟩⟩
                                  refine TS.reg [] ?_ ?_
                                  · apply prop_of ?_ hq
                                    kernel_rfl
                                  refine XS.then ?_
                                  rcases bif_some h with ⟨c46, h⟩ | ⟨c47, h⟩
                                  · refine TS.cond ((((m4.getD c_Slot.toNat ((0 : Int), ((0 : Int), ((List.replicate 32 (0 : Int)), (List.replicate 32 (0 : Int)))))).2.2.1).getD x_10.toNat (0 : Int)) == (0 : Int)) ?_ (fun e => ?_) (fun e => by rw [c46] at e; cases e)
                                    · kernel_rfl
                                    have hq : (True) ∧ ((True) ∧ ((True) ∧ ((True) ∧ ((inR x_10 32) ∧ ((c_Slot.toNat < 9 ∧ (x_10.toNat < 32 ∧ (True))) ∧ (True)))))) := ⟨trivial, ⟨trivial, ⟨trivial, ⟨trivial, ⟨inb_ok t45, ⟨⟨inR_lt (inb_ok t15), ⟨inR_lt (inb_ok t45), trivial⟩⟩, trivial⟩⟩⟩⟩⟩⟩
                                    refine TS.reg [] ?_ ?_
                                    · apply prop_of ?_ hq
                                      kernel_rfl
                                    refine XS.blockEnd ?_
                                    refine XS.blockEnd ?_
                                    refine XS.then ?_
                                    have hq : (True) ∧ ((True) ∧ ((True) ∧ (True))) := ⟨trivial, ⟨trivial, ⟨trivial, trivial⟩⟩⟩
                                    refine TS.reg [] ?_ ?_
                                    · apply prop_of ?_ hq
                                      kernel_rfl
                                    refine XS.reAny [0, 1, 2, 3, 4] (mkMask 69 [0, 1, 5]) ((IntKind.wrap .i64 (x_10 + (1 : Int))), (m4.set c_Slot.toNat ((m4.getD c_Slot.toNat ((0 : Int), ((0 : Int), ((List.replicate 32 (0 : Int)), (List.replicate 32 (0 : Int)))))).1, ((m4.getD c_Slot.toNat ((0 : Int), ((0 : Int), ((List.replicate 32 (0 : Int)), (List.replicate 32 (0 : Int)))))).2.1, ((((m4.getD c_Slot.toNat ((0 : Int), ((0 : Int), ((List.replicate 32 (0 : Int)), (List.replicate 32 (0 : Int)))))).2.2.1).set x_10.toNat (1 : Int)), (m4.getD c_Slot.toNat ((0 : Int), ((0 : Int), ((List.replicate 32 (0 : Int)), (List.replicate 32 (0 : Int)))))).2.2.2))))) h ?_
                                    kernel_rfl
                                  · refine TS.cond ((((m4.getD c_Slot.toNat ((0 : Int), ((0 : Int), ((List.replicate 32 (0 : Int)), (List.replicate 32 (0 : Int)))))).2.2.1).getD x_10.toNat (0 : Int)) == (0 : Int)) ?_ (fun e => by rw [c47] at e; cases e) (fun e => ?_)
                                    · kernel_rfl
                                    refine TS.skip ?_
                                    refine XS.blockEnd ?_
                                    refine XS.blockEnd ?_
                                    refine XS.then ?_
                                    have hq : (True) ∧ ((True) ∧ ((True) ∧ (True))) := ⟨trivial, ⟨trivial, ⟨trivial, trivial⟩⟩⟩
                                    refine TS.reg [] ?_ ?_
                                    · apply prop_of ?_ hq
                                      kernel_rfl
                                    refine XS.reAny [0, 1, 2, 3, 4] (mkMask 69 [0, 1, 5]) ((IntKind.wrap .i64 (x_10 + (1 : Int))), m4) h ?_
                                    kernel_rfl
                              · refine TS.cond (decide (x_10 < (32 : Int))) ?_ (fun e => by rw [c40] at e; cases e) (fun e => ?_)
                                · kernel_rfl
                                refine TS.exit ?_
                                refine XS.passE ?_
                                refine XS.passE ?_
                                refine XS.out ?_
                                refine XS.then ?_
                                refine TS.seq ?_
                                have hq : (True) ∧ ((True) ∧ ((True) ∧ ((c_Slot.toNat < 9 ∧ (True)) ∧ (True)))) := ⟨trivial, ⟨trivial, ⟨trivial, ⟨⟨inR_lt (inb_ok t15), trivial⟩, trivial⟩⟩⟩⟩
                                refine TS.reg [] ?_ ?_
                                · apply prop_of ?_ hq
                                  kernel_rfl
                                refine XS.then ?_
                                refine TS.seq ?_
                                refine TS.seq ?_
                                have hq : (True) ∧ ((True) ∧ (True)) := ⟨trivial, ⟨trivial, trivial⟩⟩
                                refine TS.reg [] ?_ ?_
                                · apply prop_of ?_ hq
                                  kernel_rfl
                                refine XS.then ?_
                                rcases bif_some h with ⟨c48, h⟩ | ⟨c49, h⟩
                                · refine TS.cond (c_Arg == (0 : Int)) ?_ (fun e => ?_) (fun e => by rw [c48] at e; cases e)
                                  · kernel_rfl
                                  have hq : (True) ∧ ((True) ∧ ((True) ∧ ((c_Slot.toNat < 9 ∧ (True)) ∧ (True)))) := ⟨trivial, ⟨trivial, ⟨trivial, ⟨⟨inR_lt (inb_ok t15), trivial⟩, trivial⟩⟩⟩⟩
                                  refine TS.reg [] ?_ ?_
                                  · apply prop_of ?_ hq
                                    kernel_rfl
                                  refine XS.then ?_
                                  refine TS.seq ?_
                                  have hq : (True) ∧ (True) := ⟨trivial, trivial⟩
                                  refine TS.reg [] ?_ ?_
                                  · apply prop_of ?_ hq
                                    kernel_rfl
                                  refine XS.then ?_
                                  refine TS.ret ?_
                                  refine XS.backR 0 (mkTs 95 [(2, (.ptr 1 [])), (3, (.ptr 2 [])), (4, (.ptr 3 [])), (7, (.ptr 4 [])), (11, (.int .i64 (1 : Int)))]) (mkTs 95 [(2, (.ptr 1 [])), (3, (.ptr 2 [])), (4, (.ptr 3 [])), (7, (.ptr 4 [])), (11, (.int .i64 (1 : Int))), (87, (.int .i64 (1 : Int)))], [.dead, (.box 36 (.st (.arr 9 (.st (.pair (.int .i64) (.pair (.int .i64) (.pair (.arr 32 (.int .i64)) (.arr 32 (.int .i64)))))) b_Slots))), (.box 23 (.st (.cons (.int .i64 c_Kind) (.cons (.int .i64 c_Slot) (.cons (.int .i64 c_End) (.int .i64 c_Arg)))))), (.box 36 (.st (.arr 9 (.st (.pair (.int .i64) (.pair (.int .i64) (.pair (.arr 32 (.int .i64)) (.arr 32 (.int .i64)))))) (List.replicate 9 ((0 : Int), ((0 : Int), ((List.replicate 32 (0 : Int)), (List.replicate 32 (0 : Int))))))))), (.box 36 (.st (.arr 9 (.st (.pair (.int .i64) (.pair (.int .i64) (.pair (.arr 32 (.int .i64)) (.arr 32 (.int .i64)))))) ((m4.set c_Slot.toNat ((3 : Int), ((m4.getD c_Slot.toNat ((0 : Int), ((0 : Int), ((List.replicate 32 (0 : Int)), (List.replicate 32 (0 : Int)))))).2.1, ((m4.getD c_Slot.toNat ((0 : Int), ((0 : Int), ((List.replicate 32 (0 : Int)), (List.replicate 32 (0 : Int)))))).2.2.1, (m4.getD c_Slot.toNat ((0 : Int), ((0 : Int), ((List.replicate 32 (0 : Int)), (List.replicate 32 (0 : Int)))))).2.2.2)))).set c_Slot.toNat ((2 : Int), (((m4.set c_Slot.toNat ((3 : Int), ((m4.getD c_Slot.toNat ((0 : Int), ((0 : Int), ((List.replicate 32 (0 : Int)), (List.replicate 32 (0 : Int)))))).2.1, ((m4.getD c_Slot.toNat ((0 : Int), ((0 : Int), ((List.replicate 32 (0 : Int)), (List.replicate 32 (0 : Int)))))).2.2.1, (m4.getD c_Slot.toNat ((0 : Int), ((0 : Int), ((List.replicate 32 (0 : Int)), (List.replicate 32 (0 : Int)))))).2.2.2)))).getD c_Slot.toNat ((0 : Int), ((0 : Int), ((List.replicate 32 (0 : Int)), (List.replicate 32 (0 : Int)))))).2.1, (((m4.set c_Slot.toNat ((3 : Int), ((m4.getD c_Slot.toNat ((0 : Int), ((0 : Int), ((List.replicate 32 (0 : Int)), (List.replicate 32 (0 : Int)))))).2.1, ((m4.getD c_Slot.toNat ((0 : Int), ((0 : Int), ((List.replicate 32 (0 : Int)), (List.replicate 32 (0 : Int)))))).2.2.1, (m4.getD c_Slot.toNat ((0 : Int), ((0 : Int), ((List.replicate 32 (0 : Int)), (List.replicate 32 (0 : Int)))))).2.2.2)))).getD c_Slot.toNat ((0 : Int), ((0 : Int), ((List.replicate 32 (0 : Int)), (List.replicate 32 (0 : Int)))))).2.2.1, ((m4.set c_Slot.toNat ((3 : Int), ((m4.getD c_Slot.toNat ((0 : Int), ((0 : Int), ((List.replicate 32 (0 : Int)), (List.replicate 32 (0 : Int)))))).2.1, ((m4.getD c_Slot.toNat ((0 : Int), ((0 : Int), ((List.replicate 32 (0 : Int)), (List.replicate 32 (0 : Int)))))).2.2.1, (m4.getD c_Slot.toNat ((0 : Int), ((0 : Int), ((List.replicate 32 (0 : Int)), (List.replicate 32 (0 : Int)))))).2.2.2)))).getD c_Slot.toNat ((0 : Int), ((0 : Int), ((List.replicate 32 (0 : Int)), (List.replicate 32 (0 : Int)))))).2.2.2)))))))]) ((True) ∧ (True)) (by kernel_rfl) (by kernel_rfl) ⟨trivial, trivial⟩ ?_
                                  refine KS.opsOf ?_
                                  have hq : (True) ∧ (True) := ⟨trivial, trivial⟩
                                  refine TOS.run 1 [] (by kernel_rfl) ?_ ?_
                                  · apply prop_of ?_ hq
                                    kernel_rfl
                                  refine TOS.nil (by kernel_rfl) ?_
                                  refine XS.blockEnd ?_
                                  refine XS.reAny [1, 2, 3, 4] (mkMask 95 [2, 3, 4, 7, 11]) ((1 : Int), ((m4.set c_Slot.toNat ((3 : Int), ((m4.getD c_Slot.toNat ((0 : Int), ((0 : Int), ((List.replicate 32 (0 : Int)), (List.replicate 32 (0 : Int)))))).2.1, ((m4.getD c_Slot.toNat ((0 : Int), ((0 : Int), ((List.replicate 32 (0 : Int)), (List.replicate 32 (0 : Int)))))).2.2.1, (m4.getD c_Slot.toNat ((0 : Int), ((0 : Int), ((List.replicate 32 (0 : Int)), (List.replicate 32 (0 : Int)))))).2.2.2)))).set c_Slot.toNat ((2 : Int), (((m4.set c_Slot.toNat ((3 : Int), ((m4.getD c_Slot.toNat ((0 : Int), ((0 : Int), ((List.replicate 32 (0 : Int)), (List.replicate 32 (0 : Int)))))).2.1, ((m4.getD c_Slot.toNat ((0 : Int), ((0 : Int), ((List.replicate 32 (0 : Int)), (List.replicate 32 (0 : Int)))))).2.2.1, (m4.getD c_Slot.toNat ((0 : Int), ((0 : Int), ((List.replicate 32 (0 : Int)), (List.replicate 32 (0 : Int)))))).2.2.2)))).getD c_Slot.toNat ((0 : Int), ((0 : Int), ((List.replicate 32 (0 : Int)), (List.replicate 32 (0 : Int)))))).2.1, (((m4.set c_Slot.toNat ((3 : Int), ((m4.getD c_Slot.toNat ((0 : Int), ((0 : Int), ((List.replicate 32 (0 : Int)), (List.replicate 32 (0 : Int)))))).2.1, ((m4.getD c_Slot.toNat ((0 : Int), ((0 : Int), ((List.replicate 32 (0 : Int)), (List.replicate 32 (0 : Int)))))).2.2.1, (m4.getD c_Slot.toNat ((0 : Int), ((0 : Int), ((List.replicate 32 (0 : Int)), (List.replicate 32 (0 : Int)))))).2.2.2)))).getD c_Slot.toNat ((0 : Int), ((0 : Int), ((List.replicate 32 (0 : Int)), (List.replicate 32 (0 : Int)))))).2.2.1, ((m4.set c_Slot.toNat ((3 : Int), ((m4.getD c_Slot.toNat ((0 : Int), ((0 : Int), ((List.replicate 32 (0 : Int)), (List.replicate 32 (0 : Int)))))).2.1, ((m4.getD c_Slot.toNat ((0 : Int), ((0 : Int), ((List.replicate 32 (0 : Int)), (List.replicate 32 (0 : Int)))))).2.2.1, (m4.getD c_Slot.toNat ((0 : Int), ((0 : Int), ((List.replicate 32 (0 : Int)), (List.replicate 32 (0 : Int)))))).2.2.2)))).getD c_Slot.toNat ((0 : Int), ((0 : Int), ((List.replicate 32 (0 : Int)), (List.replicate 32 (0 : Int)))))).2.2.2))))) h ?_
                                  kernel_rfl
                                · refine TS.cond (c_Arg == (0 : Int)) ?_ (fun e => by rw [c49] at e; cases e) (fun e => ?_)
                                  · kernel_rfl
                                  refine TS.skip ?_
                                  refine XS.then ?_
                                  refine TS.seq ?_
                                  have hq : (True) ∧ (True) := ⟨trivial, trivial⟩
                                  refine TS.reg [] ?_ ?_
                                  · apply prop_of ?_ hq
                                    kernel_rfl
                                  refine XS.then ?_
                                  refine TS.ret ?_
                                  refine XS.backR 0 (mkTs 95 [(2, (.ptr 1 [])), (3, (.ptr 2 [])), (4, (.ptr 3 [])), (7, (.ptr 4 [])), (11, (.int .i64 (1 : Int)))]) (mkTs 95 [(2, (.ptr 1 [])), (3, (.ptr 2 [])), (4, (.ptr 3 [])), (7, (.ptr 4 [])), (11, (.int .i64 (1 : Int))), (87, (.int .i64 (1 : Int)))], [.dead, (.box 36 (.st (.arr 9 (.st (.pair (.int .i64) (.pair (.int .i64) (.pair (.arr 32 (.int .i64)) (.arr 32 (.int .i64)))))) b_Slots))), (.box 23 (.st (.cons (.int .i64 c_Kind) (.cons (.int .i64 c_Slot) (.cons (.int .i64 c_End) (.int .i64 c_Arg)))))), (.box 36 (.st (.arr 9 (.st (.pair (.int .i64) (.pair (.int .i64) (.pair (.arr 32 (.int .i64)) (.arr 32 (.int .i64)))))) (List.replicate 9 ((0 : Int), ((0 : Int), ((List.replicate 32 (0 : Int)), (List.replicate 32 (0 : Int))))))))), (.box 36 (.st (.arr 9 (.st (.pair (.int .i64) (.pair (.int .i64) (.pair (.arr 32 (.int .i64)) (.arr 32 (.int .i64)))))) (m4.set c_Slot.toNat ((3 : Int), ((m4.getD c_Slot.toNat ((0 : Int), ((0 : Int), ((List.replicate 32 (0 : Int)), (List.replicate 32 (0 : Int)))))).2.1, ((m4.getD c_Slot.toNat ((0 : Int), ((0 : Int), ((List.replicate 32 (0 : Int)), (List.replicate 32 (0 : Int)))))).2.2.1, (m4.getD c_Slot.toNat ((0 : Int), ((0 : Int), ((List.replicate 32 (0 : Int)), (List.replicate 32 (0 : Int)))))).2.2.2)))))))]) ((True) ∧ (True)) (by kernel_rfl) (by kernel_rfl) ⟨trivial, trivial⟩ ?_
                                  refine KS.opsOf ?_
                                  have hq : (True) ∧ (True) := ⟨trivial, trivial⟩
                                  refine TOS.run 1 [] (by kernel_rfl) ?_ ?_
                                  · apply prop_of ?_ hq
                                    kernel_rfl
                                  refine TOS.nil (by kernel_rfl) ?_
                                  refine XS.blockEnd ?_
                                  refine XS.reAny [1, 2, 3, 4] (mkMask 95 [2, 3, 4, 7, 11]) ((1 : Int), (m4.set c_Slot.toNat ((3 : Int), ((m4.getD c_Slot.toNat ((0 : Int), ((0 : Int), ((List.replicate 32 (0 : Int)), (List.replicate 32 (0 : Int)))))).2.1, ((m4.getD c_Slot.toNat ((0 : Int), ((0 : Int), ((List.replicate 32 (0 : Int)), (List.replicate 32 (0 : Int)))))).2.2.1, (m4.getD c_Slot.toNat ((0 : Int), ((0 : Int), ((List.replicate 32 (0 : Int)), (List.replicate 32 (0 : Int)))))).2.2.2))))) h ?_
                                  kernel_rfl
                      · rcases bif_some h with ⟨c50, h⟩ | ⟨c51, h⟩
                        · have hq : (True) ∧ ((True) ∧ (((True) ∧ (decide (c_Arg < (0 : Int))) = true) ∧ ((True) ∧ ((True) ∧ ((True) ∧ ((True) ∧ (True))))))) := ⟨trivial, ⟨trivial, ⟨⟨trivial, c50⟩, ⟨trivial, ⟨trivial, ⟨trivial, ⟨trivial, trivial⟩⟩⟩⟩⟩⟩⟩
                          refine TS.reg [.none, .none, .dec true] ?_ ?_
                          · apply prop_of ?_ hq
                            kernel_rfl
                          refine XS.reAny [4, 0, 1, 2, 3] (mkMask 69 [0, 1, 7]) true h ?_
                          kernel_rfl
                        · rcases bif_some h with ⟨c52, h⟩ | ⟨c53, h⟩
                          · have hq : (True) ∧ ((True) ∧ (((True) ∧ (decide (c_Arg < (0 : Int))) = false) ∧ ((True) ∧ ((True) ∧ ((True) ∧ (((True) ∧ (decide (c_Arg ≥ (4294967296 : Int))) = true) ∧ ((True) ∧ ((True) ∧ (True))))))))) := ⟨trivial, ⟨trivial, ⟨⟨trivial, c51⟩, ⟨trivial, ⟨trivial, ⟨trivial, ⟨⟨trivial, c52⟩, ⟨trivial, ⟨trivial, trivial⟩⟩⟩⟩⟩⟩⟩⟩⟩
                            refine TS.reg [.none, .none, .dec false, .none, .none, .none, .dec true] ?_ ?_
                            · apply prop_of ?_ hq
                              kernel_rfl
                            refine XS.reAny [4, 0, 1, 2, 3] (mkMask 69 [0, 1, 7]) true h ?_
                            kernel_rfl
                          · have hq : (True) ∧ ((True) ∧ (((True) ∧ (decide (c_Arg < (0 : Int))) = false) ∧ ((True) ∧ ((True) ∧ ((True) ∧ (((True) ∧ (decide (c_Arg ≥ (4294967296 : Int))) = false) ∧ ((True) ∧ ((True) ∧ ((True) ∧ ((True) ∧ ((True) ∧ (True)))))))))))) := ⟨trivial, ⟨trivial, ⟨⟨trivial, c51⟩, ⟨trivial, ⟨trivial, ⟨trivial, ⟨⟨trivial, c53⟩, ⟨trivial, ⟨trivial, ⟨trivial, ⟨trivial, ⟨trivial, trivial⟩⟩⟩⟩⟩⟩⟩⟩⟩⟩⟩⟩
                            refine TS.reg [.none, .none, .dec false, .none, .none, .none, .dec false] ?_ ?_
                            · apply prop_of ?_ hq
                              kernel_rfl
                            refine XS.reAny [4, 0, 1, 2, 3] (mkMask 69 [0, 1, 7]) ((bitsI .and .i64 c_Arg (3 : Int)) != (0 : Int)) h ?_
                            kernel_rfl
                    · refine TS.cond (c_Kind == (5 : Int)) ?_ (fun e => by rw [c34] at e; cases e) (fun e => ?_)
                      · kernel_rfl
                      refine TS.opsOf ?_
                      have hq : (True) ∧ ((True) ∧ (True)) := ⟨trivial, ⟨trivial, trivial⟩⟩
                      refine TOS.run 2 [] (by kernel_rfl) ?_ ?_
                      · apply prop_of ?_ hq
                        kernel_rfl
                      refine TOS.call 64 (mkMask 95 [2, 3, 4, 7, 11]) Try.func64 rfl ?_
                      intro fv14
                      refine ⟨(mkTs 101 [(0, (.ptr 3 [.fld 0 0, .idx c_Slot.toNat 66])), (1, (.st (.cons (.int .i64 c_Kind) (.cons (.int .i64 c_Slot) (.cons (.int .i64 c_End) (.int .i64 c_Arg))))))], [(.box 36 (.st (.arr 9 (.st (.pair (.int .i64) (.pair (.int .i64) (.pair (.arr 32 (.int .i64)) (.arr 32 (.int .i64)))))) b_Slots))), (.box 23 (.st (.cons (.int .i64 c_Kind) (.cons (.int .i64 c_Slot) (.cons (.int .i64 c_End) (.int .i64 c_Arg)))))), (.box 36 (.st (.arr 9 (.st (.pair (.int .i64) (.pair (.int .i64) (.pair (.arr 32 (.int .i64)) (.arr 32 (.int .i64)))))) (List.replicate 9 ((0 : Int), ((0 : Int), ((List.replicate 32 (0 : Int)), (List.replicate 32 (0 : Int))))))))), (.box 36 (.st (.arr 9 (.st (.pair (.int .i64) (.pair (.int .i64) (.pair (.arr 32 (.int .i64)) (.arr 32 (.int .i64)))))) b_Slots))), (.sav (mkTs 95 [(2, (.ptr 0 [])), (3, (.ptr 1 [])), (4, (.ptr 2 [])), (7, (.ptr 3 [])), (11, (.int .i64 (1 : Int)))]) fv14)]), by kernel_rfl, ?_⟩
                      refine TS.seq ?_
                      have hq : (True) ∧ ((True) ∧ (True)) := ⟨trivial, ⟨trivial, trivial⟩⟩
                      refine TS.reg [] ?_ ?_
                      · apply prop_of ?_ hq
                        kernel_rfl
                      refine XS.then ?_
                      refine TS.seq ?_
                      refine TS.block ?_
                      refine TS.seq ?_
                      rcases bif_some h with ⟨c54, h⟩ | ⟨c55, h⟩
                      · have hq : (True) ∧ ((True) ∧ ((True) ∧ (((True) ∧ (decide (c_End < (1 : Int))) = true) ∧ ((True) ∧ ((True) ∧ (True)))))) := ⟨trivial, ⟨trivial, ⟨trivial, ⟨⟨trivial, c54⟩, ⟨trivial, ⟨trivial, trivial⟩⟩⟩⟩⟩⟩
                        refine TS.reg [.none, .none, .none, .dec true] ?_ ?_
                        · apply prop_of ?_ hq
                          kernel_rfl
                        refine XS.then ?_
                        refine TS.yes ?_ ?_
                        · kernel_rfl
                        refine TS.seq ?_
                        have hq : (True) ∧ (True) := ⟨trivial, trivial⟩
                        refine TS.reg [] ?_ ?_
                        · apply prop_of ?_ hq
                          kernel_rfl
                        refine XS.then ?_
                        refine TS.ret ?_
                        refine XS.blockRet ?_
                        refine XS.passR ?_
                        refine XS.backR 4 (mkTs 95 [(2, (.ptr 0 [])), (3, (.ptr 1 [])), (4, (.ptr 2 [])), (7, (.ptr 3 [])), (11, (.int .i64 (1 : Int)))]) (mkTs 95 [(2, (.ptr 0 [])), (3, (.ptr 1 [])), (4, (.ptr 2 [])), (7, (.ptr 3 [])), (11, (.int .i64 (1 : Int))), (59, (.int .i64 (5 : Int)))], [(.box 36 (.st (.arr 9 (.st (.pair (.int .i64) (.pair (.int .i64) (.pair (.arr 32 (.int .i64)) (.arr 32 (.int .i64)))))) b_Slots))), (.box 23 (.st (.cons (.int .i64 c_Kind) (.cons (.int .i64 c_Slot) (.cons (.int .i64 c_End) (.int .i64 c_Arg)))))), (.box 36 (.st (.arr 9 (.st (.pair (.int .i64) (.pair (.int .i64) (.pair (.arr 32 (.int .i64)) (.arr 32 (.int .i64)))))) (List.replicate 9 ((0 : Int), ((0 : Int), ((List.replicate 32 (0 : Int)), (List.replicate 32 (0 : Int))))))))), (.box 36 (.st (.arr 9 (.st (.pair (.int .i64) (.pair (.int .i64) (.pair (.arr 32 (.int .i64)) (.arr 32 (.int .i64)))))) b_Slots))), .dead, (.box 23 (.st (.cons (.int .i64 c_Kind) (.cons (.int .i64 c_Slot) (.cons (.int .i64 c_End) (.int .i64 c_Arg))))))]) ((True) ∧ (True)) (by kernel_rfl) (by kernel_rfl) ⟨trivial, trivial⟩ ?_
                        refine KS.opsOf ?_
                        have hq : (True) ∧ (True) := ⟨trivial, trivial⟩
                        refine TOS.run 1 [] (by kernel_rfl) ?_ ?_
                        · apply prop_of ?_ hq
                          kernel_rfl
                        refine TOS.nil (by kernel_rfl) ?_
                        refine XS.blockEnd ?_
                        refine XS.reAny [0, 1, 2, 3] (mkMask 95 [2, 3, 4, 7, 11]) ((5 : Int), b_Slots) h ?_
                        kernel_rfl
                      · have hq : (True) ∧ ((True) ∧ ((True) ∧ (((True) ∧ (decide (c_End < (1 : Int))) = false) ∧ ((True) ∧ ((True) ∧ ((True) ∧ ((True) ∧ ((True) ∧ (True))))))))) := ⟨trivial, ⟨trivial, ⟨trivial, ⟨⟨trivial, c55⟩, ⟨trivial, ⟨trivial, ⟨trivial, ⟨trivial, ⟨trivial, trivial⟩⟩⟩⟩⟩⟩⟩⟩⟩
                        refine TS.reg [.none, .none, .none, .dec false] ?_ ?_
                        · apply prop_of ?_ hq
                          kernel_rfl
                        refine XS.then ?_
                        rcases bif_some h with ⟨c56, h⟩ | ⟨c57, h⟩
                        · refine TS.cond (decide (c_End > (31 : Int))) ?_ (fun e => ?_) (fun e => by rw [c56] at e; cases e)
                          · kernel_rfl
                          refine TS.seq ?_
                          have hq : (True) ∧ (True) := ⟨trivial, trivial⟩
                          refine TS.reg [] ?_ ?_
                          · apply prop_of ?_ hq
                            kernel_rfl
                          refine XS.then ?_
                          refine TS.ret ?_
                          refine XS.blockRet ?_
                          refine XS.passR ?_
                          refine XS.backR 4 (mkTs 95 [(2, (.ptr 0 [])), (3, (.ptr 1 [])), (4, (.ptr 2 [])), (7, (.ptr 3 [])), (11, (.int .i64 (1 : Int)))]) (mkTs 95 [(2, (.ptr 0 [])), (3, (.ptr 1 [])), (4, (.ptr 2 [])), (7, (.ptr 3 [])), (11, (.int .i64 (1 : Int))), (59, (.int .i64 (5 : Int)))], [(.box 36 (.st (.arr 9 (.st (.pair (.int .i64) (.pair (.int .i64) (.pair (.arr 32 (.int .i64)) (.arr 32 (.int .i64)))))) b_Slots))), (.box 23 (.st (.cons (.int .i64 c_Kind) (.cons (.int .i64 c_Slot) (.cons (.int .i64 c_End) (.int .i64 c_Arg)))))), (.box 36 (.st (.arr 9 (.st (.pair (.int .i64) (.pair (.int .i64) (.pair (.arr 32 (.int .i64)) (.arr 32 (.int .i64)))))) (List.replicate 9 ((0 : Int), ((0 : Int), ((List.replicate 32 (0 : Int)), (List.replicate 32 (0 : Int))))))))), (.box 36 (.st (.arr 9 (.st (.pair (.int .i64) (.pair (.int .i64) (.pair (.arr 32 (.int .i64)) (.arr 32 (.int .i64)))))) b_Slots))), .dead, (.box 23 (.st (.cons (.int .i64 c_Kind) (.cons (.int .i64 c_Slot) (.cons (.int .i64 c_End) (.int .i64 c_Arg))))))]) ((True) ∧ (True)) (by kernel_rfl) (by kernel_rfl) ⟨trivial, trivial⟩ ?_
                          refine KS.opsOf ?_
                          have hq : (True) ∧ (True) := ⟨trivial, trivial⟩
                          refine TOS.run 1 [] (by kernel_rfl) ?_ ?_
                          · apply prop_of ?_ hq
                            kernel_rfl
                          refine TOS.nil (by kernel_rfl) ?_
                          refine XS.blockEnd ?_
                          refine XS.reAny [0, 1, 2, 3] (mkMask 95 [2, 3, 4, 7, 11]) ((5 : Int), b_Slots) h ?_
                          kernel_rfl
                        · refine TS.cond (decide (c_End > (31 : Int))) ?_ (fun e => by rw [c57] at e; cases e) (fun e => ?_)
                          · kernel_rfl
                          refine TS.seq ?_
                          obtain ⟨t58, h⟩ := test_some h
                          have hq : ((True) ∧ ((True) ∧ ((True) ∧ ((True) ∧ ((True) ∧ ((inR c_End 32) ∧ ((c_Slot.toNat < 9 ∧ (c_End.toNat < 32 ∧ (True))) ∧ ((True) ∧ (True))))))))) ∧ ((True) ∧ (True)) := ⟨⟨trivial, ⟨trivial, ⟨trivial, ⟨trivial, ⟨trivial, ⟨inb_ok t58, ⟨⟨inR_lt (inb_ok t15), ⟨inR_lt (inb_ok t58), trivial⟩⟩, ⟨trivial, trivial⟩⟩⟩⟩⟩⟩⟩⟩, ⟨trivial, trivial⟩⟩
                          refine TS.draw 8 [] [] (by kernel_rfl) ?_ ?_
                          · apply prop_of ?_ hq
                            kernel_rfl
                          refine XS.then ?_
                          rcases bif_some h with ⟨c59, h⟩ | ⟨c60, h⟩
                          · refine TS.cond ((((b_Slots.getD c_Slot.toNat ((0 : Int), ((0 : Int), ((List.replicate 32 (0 : Int)), (List.replicate 32 (0 : Int)))))).2.2.1).getD c_End.toNat (0 : Int)) == (0 : Int)) ?_ (fun e => ?_) (fun e => by rw [c59] at e; cases e)
                            · kernel_rfl
                            refine TS.seq ?_
                            have hq : (True) ∧ (True) := ⟨trivial, trivial⟩
                            refine TS.reg [] ?_ ?_
                            · apply prop_of ?_ hq
                              kernel_rfl
                            refine XS.then ?_
                            refine TS.ret ?_
                            refine XS.blockRet ?_
                            refine XS.passR ?_
                            refine XS.backR 4 (mkTs 95 [(2, (.ptr 0 [])), (3, (.ptr 1 [])), (4, (.ptr 2 [])), (7, (.ptr 3 [])), (11, (.int .i64 (1 : Int)))]) (mkTs 95 [(2, (.ptr 0 [])), (3, (.ptr 1 [])), (4, (.ptr 2 [])), (7, (.ptr 3 [])), (11, (.int .i64 (1 : Int))), (59, (.int .i64 (12 : Int)))], [(.box 36 (.st (.arr 9 (.st (.pair (.int .i64) (.pair (.int .i64) (.pair (.arr 32 (.int .i64)) (.arr 32 (.int .i64)))))) b_Slots))), (.box 23 (.st (.cons (.int .i64 c_Kind) (.cons (.int .i64 c_Slot) (.cons (.int .i64 c_End) (.int .i64 c_Arg)))))), (.box 36 (.st (.arr 9 (.st (.pair (.int .i64) (.pair (.int .i64) (.pair (.arr 32 (.int .i64)) (.arr 32 (.int .i64)))))) (List.replicate 9 ((0 : Int), ((0 : Int), ((List.replicate 32 (0 : Int)), (List.replicate 32 (0 : Int))))))))), (.box 36 (.st (.arr 9 (.st (.pair (.int .i64) (.pair (.int .i64) (.pair (.arr 32 (.int .i64)) (.arr 32 (.int .i64)))))) b_Slots))), .dead, (.box 23 (.st (.cons (.int .i64 c_Kind) (.cons (.int .i64 c_Slot) (.cons (.int .i64 c_End) (.int .i64 c_Arg))))))]) ((True) ∧ (True)) (by kernel_rfl) (by kernel_rfl) ⟨trivial, trivial⟩ ?_
                            refine KS.opsOf ?_
                            have hq : (True) ∧ (True) := ⟨trivial, trivial⟩
                            refine TOS.run 1 [] (by kernel_rfl) ?_ ?_
                            · apply prop_of ?_ hq
                              kernel_rfl
                            refine TOS.nil (by kernel_rfl) ?_
                            refine XS.blockEnd ?_
                            refine XS.reAny [0, 1, 2, 3] (mkMask 95 [2, 3, 4, 7, 11]) ((12 : Int), b_Slots) h ?_
                            kernel_rfl
                          · refine TS.cond ((((b_Slots.getD c_Slot.toNat ((0 : Int), ((0 : Int), ((List.replicate 32 (0 : Int)), (List.replicate 32 (0 : Int)))))).2.2.1).getD c_End.toNat (0 : Int)) == (0 : Int)) ?_ (fun e => by rw [c60] at e; cases e) (fun e => ?_)
                            · kernel_rfl
                            refine TS.skip ?_
                            refine XS.blockEnd ?_
                            refine XS.then ?_
                            refine TS.seq ?_
                            have hq : ((True) ∧ ((True) ∧ ((True) ∧ ((True) ∧ ((True) ∧ ((inR c_End 32) ∧ (True))))))) ∧ ((True) ∧ (True)) := ⟨⟨trivial, ⟨trivial, ⟨trivial, ⟨trivial, ⟨trivial, ⟨inb_ok t58, trivial⟩⟩⟩⟩⟩⟩, ⟨trivial, trivial⟩⟩
                            refine TS.draw 6 [] [] (by kernel_rfl) ?_ ?_
                            · apply prop_of ?_ hq
                              kernel_rfl
                            refine XS.then ?_
                            refine TS.seq ?_
                            refine TS.block ?_
                            refine TS.seq ?_
                            refine TS.seq ?_
                            rcases bif_some h with ⟨c61, h⟩ | ⟨c62, h⟩
                            · have hq : (True) ∧ ((True) ∧ ((True) ∧ (((True) ∧ (c_Kind == (6 : Int)) = true) ∧ ((True) ∧ ((True) ∧ ((c_Slot.toNat < 9 ∧ (c_End.toNat < 32 ∧ (True))) ∧ ((True) ∧ ((True) ∧ ((True) ∧ (True)))))))))) := ⟨trivial, ⟨trivial, ⟨trivial, ⟨⟨trivial, c61⟩, ⟨trivial, ⟨trivial, ⟨⟨inR_lt (inb_ok t15), ⟨inR_lt (inb_ok t58), trivial⟩⟩, ⟨trivial, ⟨trivial, ⟨trivial, trivial⟩⟩⟩⟩⟩⟩⟩⟩⟩⟩
                              refine TS.reg [.none, .none, .none, .dec true] ?_ ?_
                              · apply prop_of ?_ hq
                                kernel_rfl
                              refine XS.then ?_
                              refine TS.cut (D := Bool) (fun d => match d with | x_11 => (mkTs 101 [(0, (.ptr 4 [.fld 0 0, .idx c_Slot.toNat 66])), (3, (.ptr 5 [])), (5, (.ptr 4 [.fld 0 0, .idx c_Slot.toNat 66, .fld 2 2, .idx c_End.toNat 1])), (30, (.bool x_11))], [(.sav (mkTs 95 [(2, (.ptr 1 [])), (3, (.ptr 2 [])), (4, (.ptr 3 [])), (7, (.ptr 4 [])), (11, (.int .i64 (1 : Int)))]) fv14), (.box 36 (.st (.arr 9 (.st (.pair (.int .i64) (.pair (.int .i64) (.pair (.arr 32 (.int .i64)) (.arr 32 (.int .i64)))))) b_Slots))), (.box 23 (.st (.cons (.int .i64 c_Kind) (.cons (.int .i64 c_Slot) (.cons (.int .i64 c_End) (.int .i64 c_Arg)))))), (.box 36 (.st (.arr 9 (.st (.pair (.int .i64) (.pair (.int .i64) (.pair (.arr 32 (.int .i64)) (.arr 32 (.int .i64)))))) (List.replicate 9 ((0 : Int), ((0 : Int), ((List.replicate 32 (0 : Int)), (List.replicate 32 (0 : Int))))))))), (.box 36 (.st (.arr 9 (.st (.pair (.int .i64) (.pair (.int .i64) (.pair (.arr 32 (.int .i64)) (.arr 32 (.int .i64)))))) b_Slots))), (.box 23 (.st (.cons (.int .i64 c_Kind) (.cons (.int .i64 c_Slot) (.cons (.int .i64 c_End) (.int .i64 c_Arg))))))])) (fun d => F21_j89 n b_Slots c_Kind c_Slot c_End c_Arg d = some r) ?_ ?_
                              · rintro x_11 h
                                replace h : (bif x_11 then (F21_j71 n b_Slots c_Slot ((1 : Int), (b_Slots.set c_Slot.toNat ((b_Slots.getD c_Slot.toNat ((0 : Int), ((0 : Int), ((List.replicate 32 (0 : Int)), (List.replicate 32 (0 : Int)))))).1, ((b_Slots.getD c_Slot.toNat ((0 : Int), ((0 : Int), ((List.replicate 32 (0 : Int)), (List.replicate 32 (0 : Int)))))).2.1, ((((b_Slots.getD c_Slot.toNat ((0 : Int), ((0 : Int), ((List.replicate 32 (0 : Int)), (List.replicate 32 (0 : Int)))))).2.2.1).set c_End.toNat (3 : Int)), (b_Slots.getD c_Slot.toNat ((0 : Int), ((0 : Int), ((List.replicate 32 (0 : Int)), (List.replicate 32 (0 : Int)))))).2.2.2)))))) else (bif (c_Kind == (8 : Int)) then (bif (decide (c_Arg < (0 : Int))) then (F21_j90 n b_Slots c_Kind c_Slot c_End c_Arg true) else (F21_j90 n b_Slots c_Kind c_Slot c_End c_Arg (decide (c_Arg > (65535 : Int))))) else (F21_j90 n b_Slots c_Kind c_Slot c_End c_Arg false))) = some r := h
                                refine XS.then ?_
                                rcases bif_some h with ⟨c63, h⟩ | ⟨c64, h⟩
                                · refine TS.cond x_11 ?_ (fun e => ?_) (fun e => by rw [c63] at e; cases e)
                                  · kernel_rfl
                                  have hq : (True) ∧ ((True) ∧ ((c_Slot.toNat < 9 ∧ (c_End.toNat < 32 ∧ (True))) ∧ (True))) := ⟨trivial, ⟨trivial, ⟨⟨inR_lt (inb_ok t15), ⟨inR_lt (inb_ok t58), trivial⟩⟩, trivial⟩⟩⟩
                                  refine TS.reg [] ?_ ?_
                                  · apply prop_of ?_ hq
                                    kernel_rfl
                                  refine XS.blockEnd ?_
                                  refine XS.then ?_
                                  refine TS.seq ?_
                                  have hq : (True) ∧ (True) := ⟨trivial, trivial⟩
                                  refine TS.reg [] ?_ ?_
                                  · apply prop_of ?_ hq
                                    kernel_rfl
                                  refine XS.then ?_
                                  refine TS.ret ?_
                                  refine XS.backR 0 (mkTs 95 [(2, (.ptr 1 [])), (3, (.ptr 2 [])), (4, (.ptr 3 [])), (7, (.ptr 4 [])), (11, (.int .i64 (1 : Int)))]) (mkTs 95 [(2, (.ptr 1 [])), (3, (.ptr 2 [])), (4, (.ptr 3 [])), (7, (.ptr 4 [])), (11, (.int .i64 (1 : Int))), (59, (.int .i64 (1 : Int)))], [.dead, (.box 36 (.st (.arr 9 (.st (.pair (.int .i64) (.pair (.int .i64) (.pair (.arr 32 (.int .i64)) (.arr 32 (.int .i64)))))) b_Slots))), (.box 23 (.st (.cons (.int .i64 c_Kind) (.cons (.int .i64 c_Slot) (.cons (.int .i64 c_End) (.int .i64 c_Arg)))))), (.box 36 (.st (.arr 9 (.st (.pair (.int .i64) (.pair (.int .i64) (.pair (.arr 32 (.int .i64)) (.arr 32 (.int .i64)))))) (List.replicate 9 ((0 : Int), ((0 : Int), ((List.replicate 32 (0 : Int)), (List.replicate 32 (0 : Int))))))))), (.box 36 (.st (.arr 9 (.st (.pair (.int .i64) (.pair (.int .i64) (.pair (.arr 32 (.int .i64)) (.arr 32 (.int .i64)))))) (b_Slots.set c_Slot.toNat ((b_Slots.getD c_Slot.toNat ((0 : Int), ((0 : Int), ((List.replicate 32 (0 : Int)), (List.replicate 32 (0 : Int)))))).1, ((b_Slots.getD c_Slot.toNat ((0 : Int), ((0 : Int), ((List.replicate 32 (0 : Int)), (List.replicate 32 (0 : Int)))))).2.1, ((((b_Slots.getD c_Slot.toNat ((0 : Int), ((0 : Int), ((List.replicate 32 (0 : Int)), (List.replicate 32 (0 : Int)))))).2.2.1).set c_End.toNat (3 : Int)), (b_Slots.getD c_Slot.toNat ((0 : Int), ((0 : Int), ((List.replicate 32 (0 : Int)), (List.replicate 32 (0 : Int)))))).2.2.2))))))), (.box 23 (.st (.cons (.int .i64 c_Kind) (.cons (.int .i64 c_Slot) (.cons (.int .i64 c_End) (.int .i64 c_Arg))))))]) ((True) ∧ (True)) (by kernel_rfl) (by kernel_rfl) ⟨trivial, trivial⟩ ?_
                                  refine KS.opsOf ?_
                                  have hq : (True) ∧ (True) := ⟨trivial, trivial⟩
                                  refine TOS.run 1 [] (by kernel_rfl) ?_ ?_
                                  · apply prop_of ?_ hq
                                    kernel_rfl
                                  refine TOS.nil (by kernel_rfl) ?_
                                  refine XS.blockEnd ?_
                                  refine XS.reAny [1, 2, 3, 4] (mkMask 95 [2, 3, 4, 7, 11]) ((1 : Int), (b_Slots.set c_Slot.toNat ((b_Slots.getD c_Slot.toNat ((0 : Int), ((0 : Int), ((List.replicate 32 (0 : Int)), (List.replicate 32 (0 : Int)))))).1, ((b_Slots.getD c_Slot.toNat ((0 : Int), ((0 : Int), ((List.replicate 32 (0 : Int)), (List.replicate 32 (0 : Int)))))).2.1, ((((b_Slots.getD c_Slot.toNat ((0 : Int), ((0 : Int), ((List.replicate 32 (0 : Int)), (List.replicate 32 (0 : Int)))))).2.2.1).set c_End.toNat (3 : Int)), (b_Slots.getD c_Slot.toNat ((0 : Int), ((0 : Int), ((List.replicate 32 (0 : Int)), (List.replicate 32 (0 : Int)))))).2.2.2))))) h ?_
                                  kernel_rfl
                                · refine TS.cond x_11 ?_ (fun e => by rw [c64] at e; cases e) (fun e => ?_)
                                  · kernel_rfl
                                  refine TS.seq ?_
                                  refine TS.cut (D := Bool) (fun d => match d with | x_12 => (mkTs 101 [(0, (.ptr 4 [.fld 0 0, .idx c_Slot.toNat 66])), (3, (.ptr 5 [])), (5, (.ptr 4 [.fld 0 0, .idx c_Slot.toNat 66, .fld 2 2, .idx c_End.toNat 1])), (51, (.bool x_12))], [(.sav (mkTs 95 [(2, (.ptr 1 [])), (3, (.ptr 2 [])), (4, (.ptr 3 [])), (7, (.ptr 4 [])), (11, (.int .i64 (1 : Int)))]) fv14), (.box 36 (.st (.arr 9 (.st (.pair (.int .i64) (.pair (.int .i64) (.pair (.arr 32 (.int .i64)) (.arr 32 (.int .i64)))))) b_Slots))), (.box 23 (.st (.cons (.int .i64 c_Kind) (.cons (.int .i64 c_Slot) (.cons (.int .i64 c_End) (.int .i64 c_Arg)))))), (.box 36 (.st (.arr 9 (.st (.pair (.int .i64) (.pair (.int .i64) (.pair (.arr 32 (.int .i64)) (.arr 32 (.int .i64)))))) (List.replicate 9 ((0 : Int), ((0 : Int), ((List.replicate 32 (0 : Int)), (List.replicate 32 (0 : Int))))))))), (.box 36 (.st (.arr 9 (.st (.pair (.int .i64) (.pair (.int .i64) (.pair (.arr 32 (.int .i64)) (.arr 32 (.int .i64)))))) b_Slots))), (.box 23 (.st (.cons (.int .i64 c_Kind) (.cons (.int .i64 c_Slot) (.cons (.int .i64 c_End) (.int .i64 c_Arg))))))])) (fun d => F21_j90 n b_Slots c_Kind c_Slot c_End c_Arg d = some r) ?_ ?_
                                  · rintro x_12 h
                                    replace h : (bif x_12 then (F21_j71 n b_Slots c_Slot ((17 : Int), b_Slots)) else (bif (c_Kind == (8 : Int)) then (bif ((((b_Slots.getD c_Slot.toNat ((0 : Int), ((0 : Int), ((List.replicate 32 (0 : Int)), (List.replicate 32 (0 : Int)))))).2.2.1).getD c_End.toNat (0 : Int)) == (3 : Int)) then (F21_j71 n b_Slots c_Slot ((1 : Int), (b_Slots.set c_Slot.toNat ((b_Slots.getD c_Slot.toNat ((0 : Int), ((0 : Int), ((List.replicate 32 (0 : Int)), (List.replicate 32 (0 : Int)))))).1, ((b_Slots.getD c_Slot.toNat ((0 : Int), ((0 : Int), ((List.replicate 32 (0 : Int)), (List.replicate 32 (0 : Int)))))).2.1, ((b_Slots.getD c_Slot.toNat ((0 : Int), ((0 : Int), ((List.replicate 32 (0 : Int)), (List.replicate 32 (0 : Int)))))).2.2.1, (((b_Slots.getD c_Slot.toNat ((0 : Int), ((0 : Int), ((List.replicate 32 (0 : Int)), (List.replicate 32 (0 : Int)))))).2.2.2).set c_End.toNat c_Arg))))))) else (bif (c_Kind == (9 : Int)) then (bif ((((b_Slots.getD c_Slot.toNat ((0 : Int), ((0 : Int), ((List.replicate 32 (0 : Int)), (List.replicate 32 (0 : Int)))))).2.2.1).getD c_End.toNat (0 : Int)) == (1 : Int)) then (F21_j71 n b_Slots c_Slot ((1 : Int), (b_Slots.set c_Slot.toNat ((b_Slots.getD c_Slot.toNat ((0 : Int), ((0 : Int), ((List.replicate 32 (0 : Int)), (List.replicate 32 (0 : Int)))))).1, ((b_Slots.getD c_Slot.toNat ((0 : Int), ((0 : Int), ((List.replicate 32 (0 : Int)), (List.replicate 32 (0 : Int)))))).2.1, ((((b_Slots.getD c_Slot.toNat ((0 : Int), ((0 : Int), ((List.replicate 32 (0 : Int)), (List.replicate 32 (0 : Int)))))).2.2.1).set c_End.toNat (1 : Int)), (b_Slots.getD c_Slot.toNat ((0 : Int), ((0 : Int), ((List.replicate 32 (0 : Int)), (List.replicate 32 (0 : Int)))))).2.2.2)))))) else (F21_j71 n b_Slots c_Slot ((19 : Int), b_Slots))) else (F21_j71 n b_Slots c_Slot ((19 : Int), b_Slots)))) else (bif (c_Kind == (9 : Int)) then (bif ((((b_Slots.getD c_Slot.toNat ((0 : Int), ((0 : Int), ((List.replicate 32 (0 : Int)), (List.replicate 32 (0 : Int)))))).2.2.1).getD c_End.toNat (0 : Int)) == (3 : Int)) then (F21_j71 n b_Slots c_Slot ((1 : Int), (b_Slots.set c_Slot.toNat ((b_Slots.getD c_Slot.toNat ((0 : Int), ((0 : Int), ((List.replicate 32 (0 : Int)), (List.replicate 32 (0 : Int)))))).1, ((b_Slots.getD c_Slot.toNat ((0 : Int), ((0 : Int), ((List.replicate 32 (0 : Int)), (List.replicate 32 (0 : Int)))))).2.1, ((((b_Slots.getD c_Slot.toNat ((0 : Int), ((0 : Int), ((List.replicate 32 (0 : Int)), (List.replicate 32 (0 : Int)))))).2.2.1).set c_End.toNat (1 : Int)), (b_Slots.getD c_Slot.toNat ((0 : Int), ((0 : Int), ((List.replicate 32 (0 : Int)), (List.replicate 32 (0 : Int)))))).2.2.2)))))) else (bif ((((b_Slots.getD c_Slot.toNat ((0 : Int), ((0 : Int), ((List.replicate 32 (0 : Int)), (List.replicate 32 (0 : Int)))))).2.2.1).getD c_End.toNat (0 : Int)) == (1 : Int)) then (F21_j71 n b_Slots c_Slot ((1 : Int), (b_Slots.set c_Slot.toNat ((b_Slots.getD c_Slot.toNat ((0 : Int), ((0 : Int), ((List.replicate 32 (0 : Int)), (List.replicate 32 (0 : Int)))))).1, ((b_Slots.getD c_Slot.toNat ((0 : Int), ((0 : Int), ((List.replicate 32 (0 : Int)), (List.replicate 32 (0 : Int)))))).2.1, ((((b_Slots.getD c_Slot.toNat ((0 : Int), ((0 : Int), ((List.replicate 32 (0 : Int)), (List.replicate 32 (0 : Int)))))).2.2.1).set c_End.toNat (1 : Int)), (b_Slots.getD c_Slot.toNat ((0 : Int), ((0 : Int), ((List.replicate 32 (0 : Int)), (List.replicate 32 (0 : Int)))))).2.2.2)))))) else (F21_j71 n b_Slots c_Slot ((19 : Int), b_Slots)))) else (F21_j71 n b_Slots c_Slot ((19 : Int), b_Slots))))) = some r := h
                                    refine XS.then ?_
                                    rcases bif_some h with ⟨c65, h⟩ | ⟨c66, h⟩
                                    · refine TS.cond x_12 ?_ (fun e => ?_) (fun e => by rw [c65] at e; cases e)
                                      · kernel_rfl
                                      refine TS.seq ?_
                                      have hq : (True) ∧ (True) := ⟨trivial, trivial⟩
                                      refine TS.reg [] ?_ ?_
                                      · apply prop_of ?_ hq
                                        kernel_rfl
                                      refine XS.then ?_
                                      refine TS.ret ?_
                                      refine XS.blockRet ?_
                                      refine XS.passR ?_
                                      refine XS.backR 0 (mkTs 95 [(2, (.ptr 1 [])), (3, (.ptr 2 [])), (4, (.ptr 3 [])), (7, (.ptr 4 [])), (11, (.int .i64 (1 : Int)))]) (mkTs 95 [(2, (.ptr 1 [])), (3, (.ptr 2 [])), (4, (.ptr 3 [])), (7, (.ptr 4 [])), (11, (.int .i64 (1 : Int))), (59, (.int .i64 (17 : Int)))], [.dead, (.box 36 (.st (.arr 9 (.st (.pair (.int .i64) (.pair (.int .i64) (.pair (.arr 32 (.int .i64)) (.arr 32 (.int .i64)))))) b_Slots))), (.box 23 (.st (.cons (.int .i64 c_Kind) (.cons (.int .i64 c_Slot) (.cons (.int .i64 c_End) (.int .i64 c_Arg)))))), (.box 36 (.st (.arr 9 (.st (.pair (.int .i64) (.pair (.int .i64) (.pair (.arr 32 (.int .i64)) (.arr 32 (.int .i64)))))) (List.replicate 9 ((0 : Int), ((0 : Int), ((List.replicate 32 (0 : Int)), (List.replicate 32 (0 : Int))))))))), (.box 36 (.st (.arr 9 (.st (.pair (.int .i64) (.pair (.int .i64) (.pair (.arr 32 (.int .i64)) (.arr 32 (.int .i64)))))) b_Slots))), (.box 23 (.st (.cons (.int .i64 c_Kind) (.cons (.int .i64 c_Slot) (.cons (.int .i64 c_End) (.int .i64 c_Arg))))))]) ((True) ∧ (True)) (by kernel_rfl) (by kernel_rfl) ⟨trivial, trivial⟩ ?_
                                      refine KS.opsOf ?_
                                      have hq : (True) ∧ (True) := ⟨trivial, trivial⟩
                                      refine TOS.run 1 [] (by kernel_rfl) ?_ ?_
                                      · apply prop_of ?_ hq
                                        kernel_rfl
                                      refine TOS.nil (by kernel_rfl) ?_
                                      refine XS.blockEnd ?_
                                      refine XS.reAny [1, 2, 3, 4] (mkMask 95 [2, 3, 4, 7, 11]) ((17 : Int), b_Slots) h ?_
                                      kernel_rfl
                                    · refine TS.cond x_12 ?_ (fun e => by rw [c66] at e; cases e) (fun e => ?_)
                                      · kernel_rfl
                                      refine TS.seq ?_
                                      rcases bif_some h with ⟨c67, h⟩ | ⟨c68, h⟩
                                      · have hq : (True) ∧ ((True) ∧ ((True) ∧ (((True) ∧ (c_Kind == (8 : Int)) = true) ∧ ((True) ∧ ((True) ∧ ((c_Slot.toNat < 9 ∧ (c_End.toNat < 32 ∧ (True))) ∧ ((True) ∧ ((True) ∧ ((True) ∧ (True)))))))))) := ⟨trivial, ⟨trivial, ⟨trivial, ⟨⟨trivial, c67⟩, ⟨trivial, ⟨trivial, ⟨⟨inR_lt (inb_ok t15), ⟨inR_lt (inb_ok t58), trivial⟩⟩, ⟨trivial, ⟨trivial, ⟨trivial, trivial⟩⟩⟩⟩⟩⟩⟩⟩⟩⟩
                                        refine TS.reg [.none, .none, .none, .dec true] ?_ ?_
                                        · apply prop_of ?_ hq
                                          kernel_rfl
                                        refine XS.then ?_
                                        rcases bif_some h with ⟨c69, h⟩ | ⟨c70, h⟩
                                        · refine TS.cond ((((b_Slots.getD c_Slot.toNat ((0 : Int), ((0 : Int), ((List.replicate 32 (0 : Int)), (List.replicate 32 (0 : Int)))))).2.2.1).getD c_End.toNat (0 : Int)) == (3 : Int)) ?_ (fun e => ?_) (fun e => by rw [c69] at e; cases e)
                                          · kernel_rfl
                                          have hq : ((True) ∧ ((True) ∧ ((True) ∧ ((True) ∧ ((True) ∧ ((True) ∧ ((True) ∧ ((inR c_End 32) ∧ (True))))))))) ∧ ((c_Slot.toNat < 9 ∧ (c_End.toNat < 32 ∧ (True))) ∧ (True)) := ⟨⟨trivial, ⟨trivial, ⟨trivial, ⟨trivial, ⟨trivial, ⟨trivial, ⟨trivial, ⟨inb_ok t58, trivial⟩⟩⟩⟩⟩⟩⟩⟩, ⟨⟨inR_lt (inb_ok t15), ⟨inR_lt (inb_ok t58), trivial⟩⟩, trivial⟩⟩
                                          refine TS.draw 8 [] [] (by kernel_rfl) ?_ ?_
                                          · apply prop_of ?_ hq
                                            kernel_rfl
                                          refine XS.blockEnd ?_
                                          refine XS.then ?_
                                          refine TS.seq ?_
                                          have hq : (True) ∧ (True) := ⟨trivial, trivial⟩
                                          refine TS.reg [] ?_ ?_
                                          · apply prop_of ?_ hq
                                            kernel_rfl
                                          refine XS.then ?_
                                          refine TS.ret ?_
                                          refine XS.backR 0 (mkTs 95 [(2, (.ptr 1 [])), (3, (.ptr 2 [])), (4, (.ptr 3 [])), (7, (.ptr 4 [])), (11, (.int .i64 (1 : Int)))]) (mkTs 95 [(2, (.ptr 1 [])), (3, (.ptr 2 [])), (4, (.ptr 3 [])), (7, (.ptr 4 [])), (11, (.int .i64 (1 : Int))), (59, (.int .i64 (1 : Int)))], [.dead, (.box 36 (.st (.arr 9 (.st (.pair (.int .i64) (.pair (.int .i64) (.pair (.arr 32 (.int .i64)) (.arr 32 (.int .i64)))))) b_Slots))), (.box 23 (.st (.cons (.int .i64 c_Kind) (.cons (.int .i64 c_Slot) (.cons (.int .i64 c_End) (.int .i64 c_Arg)))))), (.box 36 (.st (.arr 9 (.st (.pair (.int .i64) (.pair (.int .i64) (.pair (.arr 32 (.int .i64)) (.arr 32 (.int .i64)))))) (List.replicate 9 ((0 : Int), ((0 : Int), ((List.replicate 32 (0 : Int)), (List.replicate 32 (0 : Int))))))))), (.box 36 (.st (.arr 9 (.st (.pair (.int .i64) (.pair (.int .i64) (.pair (.arr 32 (.int .i64)) (.arr 32 (.int .i64)))))) (b_Slots.set c_Slot.toNat ((b_Slots.getD c_Slot.toNat ((0 : Int), ((0 : Int), ((List.replicate 32 (0 : Int)), (List.replicate 32 (0 : Int)))))).1, ((b_Slots.getD c_Slot.toNat ((0 : Int), ((0 : Int), ((List.replicate 32 (0 : Int)), (List.replicate 32 (0 : Int)))))).2.1, ((b_Slots.getD c_Slot.toNat ((0 : Int), ((0 : Int), ((List.replicate 32 (0 : Int)), (List.replicate 32 (0 : Int)))))).2.2.1, (((b_Slots.getD c_Slot.toNat ((0 : Int), ((0 : Int), ((List.replicate 32 (0 : Int)), (List.replicate 32 (0 : Int)))))).2.2.2).set c_End.toNat c_Arg)))))))), (.box 23 (.st (.cons (.int .i64 c_Kind) (.cons (.int .i64 c_Slot) (.cons (.int .i64 c_End) (.int .i64 c_Arg))))))]) ((True) ∧ (True)) (by kernel_rfl) (by kernel_rfl) ⟨trivial, trivial⟩ ?_
                                          refine KS.opsOf ?_
                                          have hq : (True) ∧ (True) := ⟨trivial, trivial⟩
                                          refine TOS.run 1 [] (by kernel_rfl) ?_ ?_
                                          · apply prop_of ?_ hq
                                            kernel_rfl
                                          refine TOS.nil (by kernel_rfl) ?_
                                          refine XS.blockEnd ?_
                                          refine XS.reAny [1, 2, 3, 4] (mkMask 95 [2, 3, 4, 7, 11]) ((1 : Int), (b_Slots.set c_Slot.toNat ((b_Slots.getD c_Slot.toNat ((0 : Int), ((0 : Int), ((List.replicate 32 (0 : Int)), (List.replicate 32 (0 : Int)))))).1, ((b_Slots.getD c_Slot.toNat ((0 : Int), ((0 : Int), ((List.replicate 32 (0 : Int)), (List.replicate 32 (0 : Int)))))).2.1, ((b_Slots.getD c_Slot.toNat ((0 : Int), ((0 : Int), ((List.replicate 32 (0 : Int)), (List.replicate 32 (0 : Int)))))).2.2.1, (((b_Slots.getD c_Slot.toNat ((0 : Int), ((0 : Int), ((List.replicate 32 (0 : Int)), (List.replicate 32 (0 : Int)))))).2.2.2).set c_End.toNat c_Arg)))))) h ?_
                                          kernel_rfl
                                        · refine TS.cond ((((b_Slots.getD c_Slot.toNat ((0 : Int), ((0 : Int), ((List.replicate 32 (0 : Int)), (List.replicate 32 (0 : Int)))))).2.2.1).getD c_End.toNat (0 : Int)) == (3 : Int)) ?_ (fun e => by rw [c70] at e; cases e) (fun e => ?_)
                                          · kernel_rfl
                                          refine TS.seq ?_
                                          rcases bif_some h with ⟨c71, h⟩ | ⟨c72, h⟩
                                          · have hq : (True) ∧ ((True) ∧ ((True) ∧ (((True) ∧ (c_Kind == (9 : Int)) = true) ∧ ((True) ∧ ((True) ∧ ((c_Slot.toNat < 9 ∧ (c_End.toNat < 32 ∧ (True))) ∧ ((True) ∧ (((True) ∧ ((((b_Slots.getD c_Slot.toNat ((0 : Int), ((0 : Int), ((List.replicate 32 (0 : Int)), (List.replicate 32 (0 : Int)))))).2.2.1).getD c_End.toNat (0 : Int)) == (3 : Int)) = false) ∧ ((True) ∧ ((True) ∧ ((c_Slot.toNat < 9 ∧ (c_End.toNat < 32 ∧ (True))) ∧ ((True) ∧ ((True) ∧ ((True) ∧ ((True) ∧ (True)))))))))))))))) := ⟨trivial, ⟨trivial, ⟨trivial, ⟨⟨trivial, c71⟩, ⟨trivial, ⟨trivial, ⟨⟨inR_lt (inb_ok t15), ⟨inR_lt (inb_ok t58), trivial⟩⟩, ⟨trivial, ⟨⟨trivial, c70⟩, ⟨trivial, ⟨trivial, ⟨⟨inR_lt (inb_ok t15), ⟨inR_lt (inb_ok t58), trivial⟩⟩, ⟨trivial, ⟨trivial, ⟨trivial, ⟨trivial, trivial⟩⟩⟩⟩⟩⟩⟩⟩⟩⟩⟩⟩⟩⟩⟩⟩
                                            refine TS.reg [.none, .none, .none, .dec true, .none, .none, .none, .none, .dec false] ?_ ?_
                                            · apply prop_of ?_ hq
                                              kernel_rfl
                                            refine XS.then ?_
                                            rcases bif_some h with ⟨c73, h⟩ | ⟨c74, h⟩
                                            · refine TS.cond ((((b_Slots.getD c_Slot.toNat ((0 : Int), ((0 : Int), ((List.replicate 32 (0 : Int)), (List.replicate 32 (0 : Int)))))).2.2.1).getD c_End.toNat (0 : Int)) == (1 : Int)) ?_ (fun e => ?_) (fun e => by rw [c73] at e; cases e)
                                              · kernel_rfl
                                              have hq : (True) ∧ ((True) ∧ ((c_Slot.toNat < 9 ∧ (c_End.toNat < 32 ∧ (True))) ∧ (True))) := ⟨trivial, ⟨trivial, ⟨⟨inR_lt (inb_ok t15), ⟨inR_lt (inb_ok t58), trivial⟩⟩, trivial⟩⟩⟩
                                              refine TS.reg [] ?_ ?_
                                              · apply prop_of ?_ hq
                                                kernel_rfl
                                              refine XS.blockEnd ?_
                                              refine XS.then ?_
                                              refine TS.seq ?_
                                              have hq : (True) ∧ (True) := ⟨trivial, trivial⟩
                                              refine TS.reg [] ?_ ?_
                                              · apply prop_of ?_ hq
                                                kernel_rfl
                                              refine XS.then ?_
                                              refine TS.ret ?_
                                              refine XS.backR 0 (mkTs 95 [(2, (.ptr 1 [])), (3, (.ptr 2 [])), (4, (.ptr 3 [])), (7, (.ptr 4 [])), (11, (.int .i64 (1 : Int)))]) (mkTs 95 [(2, (.ptr 1 [])), (3, (.ptr 2 [])), (4, (.ptr 3 [])), (7, (.ptr 4 [])), (11, (.int .i64 (1 : Int))), (59, (.int .i64 (1 : Int)))], [.dead, (.box 36 (.st (.arr 9 (.st (.pair (.int .i64) (.pair (.int .i64) (.pair (.arr 32 (.int .i64)) (.arr 32 (.int .i64)))))) b_Slots))), (.box 23 (.st (.cons (.int .i64 c_Kind) (.cons (.int .i64 c_Slot) (.cons (.int .i64 c_End) (.int .i64 c_Arg)))))), (.box 36 (.st (.arr 9 (.st (.pair (.int .i64) (.pair (.int .i64) (.pair (.arr 32 (.int .i64)) (.arr 32 (.int .i64)))))) (List.replicate 9 ((0 : Int), ((0 : Int), ((List.replicate 32 (0 : Int)), (List.replicate 32 (0 : Int))))))))), (.box 36 (.st (.arr 9 (.st (.pair (.int .i64) (.pair (.int .i64) (.pair (.arr 32 (.int .i64)) (.arr 32 (.int .i64)))))) (b_Slots.set c_Slot.toNat ((b_Slots.getD c_Slot.toNat ((0 : Int), ((0 : Int), ((List.replicate 32 (0 : Int)), (List.replicate 32 (0 : Int)))))).1, ((b_Slots.getD c_Slot.toNat ((0 : Int), ((0 : Int), ((List.replicate 32 (0 : Int)), (List.replicate 32 (0 : Int)))))).2.1, ((((b_Slots.getD c_Slot.toNat ((0 : Int), ((0 : Int), ((List.replicate 32 (0 : Int)), (List.replicate 32 (0 : Int)))))).2.2.1).set c_End.toNat (1 : Int)), (b_Slots.getD c_Slot.toNat ((0 : Int), ((0 : Int), ((List.replicate 32 (0 : Int)), (List.replicate 32 (0 : Int)))))).2.2.2))))))), (.box 23 (.st (.cons (.int .i64 c_Kind) (.cons (.int .i64 c_Slot) (.cons (.int .i64 c_End) (.int .i64 c_Arg))))))]) ((True) ∧ (True)) (by kernel_rfl) (by kernel_rfl) ⟨trivial, trivial⟩ ?_
                                              refine KS.opsOf ?_
                                              have hq : (True) ∧ (True) := ⟨trivial, trivial⟩
                                              refine TOS.run 1 [] (by kernel_rfl) ?_ ?_
                                              · apply prop_of ?_ hq
                                                kernel_rfl
                                              refine TOS.nil (by kernel_rfl) ?_
                                              refine XS.blockEnd ?_
                                              refine XS.reAny [1, 2, 3, 4] (mkMask 95 [2, 3, 4, 7, 11]) ((1 : Int), (b_Slots.set c_Slot.toNat ((b_Slots.getD c_Slot.toNat ((0 : Int), ((0 : Int), ((List.replicate 32 (0 : Int)), (List.replicate 32 (0 : Int)))))).1, ((b_Slots.getD c_Slot.toNat ((0 : Int), ((0 : Int), ((List.replicate 32 (0 : Int)), (List.replicate 32 (0 : Int)))))).2.1, ((((b_Slots.getD c_Slot.toNat ((0 : Int), ((0 : Int), ((List.replicate 32 (0 : Int)), (List.replicate 32 (0 : Int)))))).2.2.1).set c_End.toNat (1 : Int)), (b_Slots.getD c_Slot.toNat ((0 : Int), ((0 : Int), ((List.replicate 32 (0 : Int)), (List.replicate 32 (0 : Int)))))).2.2.2))))) h ?_
                                              kernel_rfl
                                            · refine TS.cond ((((b_Slots.getD c_Slot.toNat ((0 : Int), ((0 : Int), ((List.replicate 32 (0 : Int)), (List.replicate 32 (0 : Int)))))).2.2.1).getD c_End.toNat (0 : Int)) == (1 : Int)) ?_ (fun e => by rw [c74] at e; cases e) (fun e => ?_)
                                              · kernel_rfl
                                              refine TS.seq ?_
                                              have hq : (True) ∧ (True) := ⟨trivial, trivial⟩
                                              refine TS.reg [] ?_ ?_
                                              · apply prop_of ?_ hq
                                                kernel_rfl
                                              refine XS.then ?_
                                              refine TS.ret ?_
                                              refine XS.blockRet ?_
                                              refine XS.passR ?_
                                              refine XS.backR 0 (mkTs 95 [(2, (.ptr 1 [])), (3, (.ptr 2 [])), (4, (.ptr 3 [])), (7, (.ptr 4 [])), (11, (.int .i64 (1 : Int)))]) (mkTs 95 [(2, (.ptr 1 [])), (3, (.ptr 2 [])), (4, (.ptr 3 [])), (7, (.ptr 4 [])), (11, (.int .i64 (1 : Int))), (59, (.int .i64 (19 : Int)))], [.dead, (.box 36 (.st (.arr 9 (.st (.pair (.int .i64) (.pair (.int .i64) (.pair (.arr 32 (.int .i64)) (.arr 32 (.int .i64)))))) b_Slots))), (.box 23 (.st (.cons (.int .i64 c_Kind) (.cons (.int .i64 c_Slot) (.cons (.int .i64 c_End) (.int .i64 c_Arg)))))), (.box 36 (.st (.arr 9 (.st (.pair (.int .i64) (.pair (.int .i64) (.pair (.arr 32 (.int .i64)) (.arr 32 (.int .i64)))))) (List.replicate 9 ((0 : Int), ((0 : Int), ((List.replicate 32 (0 : Int)), (List.replicate 32 (0 : Int))))))))), (.box 36 (.st (.arr 9 (.st (.pair (.int .i64) (.pair (.int .i64) (.pair (.arr 32 (.int .i64)) (.arr 32 (.int .i64)))))) b_Slots))), (.box 23 (.st (.cons (.int .i64 c_Kind) (.cons (.int .i64 c_Slot) (.cons (.int .i64 c_End) (.int .i64 c_Arg))))))]) ((True) ∧ (True)) (by kernel_rfl) (by kernel_rfl) ⟨trivial, trivial⟩ ?_
                                              refine KS.opsOf ?_
                                              have hq : (True) ∧ (True) := ⟨trivial, trivial⟩
                                              refine TOS.run 1 [] (by kernel_rfl) ?_ ?_
                                              · apply prop_of ?_ hq
                                                kernel_rfl
                                              refine TOS.nil (by kernel_rfl) ?_
                                              refine XS.blockEnd ?_
                                              refine XS.reAny [1, 2, 3, 4] (mkMask 95 [2, 3, 4, 7, 11]) ((19 : Int), b_Slots) h ?_
                                              kernel_rfl
                                          · have hq : (True) ∧ ((True) ∧ ((True) ∧ (((True) ∧ (c_Kind == (9 : Int)) = false) ∧ ((True) ∧ ((True) ∧ (True)))))) := ⟨trivial, ⟨trivial, ⟨trivial, ⟨⟨trivial, c72⟩, ⟨trivial, ⟨trivial, trivial⟩⟩⟩⟩⟩⟩
                                            refine TS.reg [.none, .none, .none, .dec false] ?_ ?_
                                            · apply prop_of ?_ hq
                                              kernel_rfl
                                            refine XS.then ?_
                                            refine TS.no ?_ ?_
                                            · kernel_rfl
                                            refine TS.seq ?_
                                            have hq : (True) ∧ (True) := ⟨trivial, trivial⟩
                                            refine TS.reg [] ?_ ?_
                                            · apply prop_of ?_ hq
                                              kernel_rfl
                                            refine XS.then ?_
                                            refine TS.ret ?_
                                            refine XS.blockRet ?_
                                            refine XS.passR ?_
                                            refine XS.backR 0 (mkTs 95 [(2, (.ptr 1 [])), (3, (.ptr 2 [])), (4, (.ptr 3 [])), (7, (.ptr 4 [])), (11, (.int .i64 (1 : Int)))]) (mkTs 95 [(2, (.ptr 1 [])), (3, (.ptr 2 [])), (4, (.ptr 3 [])), (7, (.ptr 4 [])), (11, (.int .i64 (1 : Int))), (59, (.int .i64 (19 : Int)))], [.dead, (.box 36 (.st (.arr 9 (.st (.pair (.int .i64) (.pair (.int .i64) (.pair (.arr 32 (.int .i64)) (.arr 32 (.int .i64)))))) b_Slots))), (.box 23 (.st (.cons (.int .i64 c_Kind) (.cons (.int .i64 c_Slot) (.cons (.int .i64 c_End) (.int .i64 c_Arg)))))), (.box 36 (.st (.arr 9 (.st (.pair (.int .i64) (.pair (.int .i64) (.pair (.arr 32 (.int .i64)) (.arr 32 (.int .i64)))))) (List.replicate 9 ((0 : Int), ((0 : Int), ((List.replicate 32 (0 : Int)), (List.replicate 32 (0 : Int))))))))), (.box 36 (.st (.arr 9 (.st (.pair (.int .i64) (.pair (.int .i64) (.pair (.arr 32 (.int .i64)) (.arr 32 (.int .i64)))))) b_Slots))), (.box 23 (.st (.cons (.int .i64 c_Kind) (.cons (.int .i64 c_Slot) (.cons (.int .i64 c_End) (.int .i64 c_Arg))))))]) ((True) ∧ (True)) (by kernel_rfl) (by kernel_rfl) ⟨trivial, trivial⟩ ?_
                                            refine KS.opsOf ?_
                                            have hq : (True) ∧ (True) := ⟨trivial, trivial⟩
                                            refine TOS.run 1 [] (by kernel_rfl) ?_ ?_
                                            · apply prop_of ?_ hq
                                              kernel_rfl
                                            refine TOS.nil (by kernel_rfl) ?_
                                            refine XS.blockEnd ?_
                                            refine XS.reAny [1, 2, 3, 4] (mkMask 95 [2, 3, 4, 7, 11]) ((19 : Int), b_Slots) h ?_
                                            kernel_rfl
                                      · have hq : (True) ∧ ((True) ∧ ((True) ∧ (((True) ∧ (c_Kind == (8 : Int)) = false) ∧ ((True) ∧ ((True) ∧ (True)))))) := ⟨trivial, ⟨trivial, ⟨trivial, ⟨⟨trivial, c68⟩, ⟨trivial, ⟨trivial, trivial⟩⟩⟩⟩⟩⟩
                                        refine TS.reg [.none, .none, .none, .dec false] ?_ ?_
                                        · apply prop_of ?_ hq
                                          kernel_rfl
                                        refine XS.then ?_
                                        refine TS.no ?_ ?_
                                        · kernel_rfl
                                        refine TS.seq ?_
                                        rcases bif_some h with ⟨c75, h⟩ | ⟨c76, h⟩
                                        · rcases bif_some h with ⟨c77, h⟩ | ⟨c78, h⟩
                                          · have hq : (True) ∧ ((True) ∧ ((True) ∧ (((True) ∧ (c_Kind == (9 : Int)) = true) ∧ ((True) ∧ ((True) ∧ ((c_Slot.toNat < 9 ∧ (c_End.toNat < 32 ∧ (True))) ∧ ((True) ∧ (((True) ∧ ((((b_Slots.getD c_Slot.toNat ((0 : Int), ((0 : Int), ((List.replicate 32 (0 : Int)), (List.replicate 32 (0 : Int)))))).2.2.1).getD c_End.toNat (0 : Int)) == (3 : Int)) = true) ∧ ((True) ∧ ((True) ∧ ((True) ∧ (True)))))))))))) := ⟨trivial, ⟨trivial, ⟨trivial, ⟨⟨trivial, c75⟩, ⟨trivial, ⟨trivial, ⟨⟨inR_lt (inb_ok t15), ⟨inR_lt (inb_ok t58), trivial⟩⟩, ⟨trivial, ⟨⟨trivial, c77⟩, ⟨trivial, ⟨trivial, ⟨trivial, trivial⟩⟩⟩⟩⟩⟩⟩⟩⟩⟩⟩⟩
                                            refine TS.reg [.none, .none, .none, .dec true, .none, .none, .none, .none, .dec true] ?_ ?_
                                            · apply prop_of ?_ hq
                                              kernel_rfl
                                            refine XS.then ?_
                                            refine TS.yes ?_ ?_
                                            · kernel_rfl
                                            have hq : (True) ∧ ((True) ∧ ((c_Slot.toNat < 9 ∧ (c_End.toNat < 32 ∧ (True))) ∧ (True))) := ⟨trivial, ⟨trivial, ⟨⟨inR_lt (inb_ok t15), ⟨inR_lt (inb_ok t58), trivial⟩⟩, trivial⟩⟩⟩
                                            refine TS.reg [] ?_ ?_
                                            · apply prop_of ?_ hq
                                              kernel_rfl
                                            refine XS.blockEnd ?_
                                            refine XS.then ?_
                                            refine TS.seq ?_
                                            have hq : (True) ∧ (True) := ⟨trivial, trivial⟩
                                            refine TS.reg [] ?_ ?_
                                            · apply prop_of ?_ hq
                                              kernel_rfl
                                            refine XS.then ?_
                                            refine TS.ret ?_
                                            refine XS.backR 0 (mkTs 95 [(2, (.ptr 1 [])), (3, (.ptr 2 [])), (4, (.ptr 3 [])), (7, (.ptr 4 [])), (11, (.int .i64 (1 : Int)))]) (mkTs 95 [(2, (.ptr 1 [])), (3, (.ptr 2 [])), (4, (.ptr 3 [])), (7, (.ptr 4 [])), (11, (.int .i64 (1 : Int))), (59, (.int .i64 (1 : Int)))], [.dead, (.box 36 (.st (.arr 9 (.st (.pair (.int .i64) (.pair (.int .i64) (.pair (.arr 32 (.int .i64)) (.arr 32 (.int .i64)))))) b_Slots))), (.box 23 (.st (.cons (.int .i64 c_Kind) (.cons (.int .i64 c_Slot) (.cons (.int .i64 c_End) (.int .i64 c_Arg)))))), (.box 36 (.st (.arr 9 (.st (.pair (.int .i64) (.pair (.int .i64) (.pair (.arr 32 (.int .i64)) (.arr 32 (.int .i64)))))) (List.replicate 9 ((0 : Int), ((0 : Int), ((List.replicate 32 (0 : Int)), (List.replicate 32 (0 : Int))))))))), (.box 36 (.st (.arr 9 (.st (.pair (.int .i64) (.pair (.int .i64) (.pair (.arr 32 (.int .i64)) (.arr 32 (.int .i64)))))) (b_Slots.set c_Slot.toNat ((b_Slots.getD c_Slot.toNat ((0 : Int), ((0 : Int), ((List.replicate 32 (0 : Int)), (List.replicate 32 (0 : Int)))))).1, ((b_Slots.getD c_Slot.toNat ((0 : Int), ((0 : Int), ((List.replicate 32 (0 : Int)), (List.replicate 32 (0 : Int)))))).2.1, ((((b_Slots.getD c_Slot.toNat ((0 : Int), ((0 : Int), ((List.replicate 32 (0 : Int)), (List.replicate 32 (0 : Int)))))).2.2.1).set c_End.toNat (1 : Int)), (b_Slots.getD c_Slot.toNat ((0 : Int), ((0 : Int), ((List.replicate 32 (0 : Int)), (List.replicate 32 (0 : Int)))))).2.2.2))))))), (.box 23 (.st (.cons (.int .i64 c_Kind) (.cons (.int .i64 c_Slot) (.cons (.int .i64 c_End) (.int .i64 c_Arg))))))]) ((True) ∧ (True)) (by kernel_rfl) (by kernel_rfl) ⟨trivial, trivial⟩ ?_
                                            refine KS.opsOf ?_
                                            have hq : (True) ∧ (True) := ⟨trivial, trivial⟩
                                            refine TOS.run 1 [] (by kernel_rfl) ?_ ?_
                                            · apply prop_of ?_ hq
                                              kernel_rfl
                                            refine TOS.nil (by kernel_rfl) ?_
                                            refine XS.blockEnd ?_
                                            refine XS.reAny [1, 2, 3, 4] (mkMask 95 [2, 3, 4, 7, 11]) ((1 : Int), (b_Slots.set c_Slot.toNat ((b_Slots.getD c_Slot.toNat ((0 : Int), ((0 : Int), ((List.replicate 32 (0 : Int)), (List.replicate 32 (0 : Int)))))).1, ((b_Slots.getD c_Slot.toNat ((0 : Int), ((0 : Int), ((List.replicate 32 (0 : Int)), (List.replicate 32 (0 : Int)))))).2.1, ((((b_Slots.getD c_Slot.toNat ((0 : Int), ((0 : Int), ((List.replicate 32 (0 : Int)), (List.replicate 32 (0 : Int)))))).2.2.1).set c_End.toNat (1 : Int)), (b_Slots.getD c_Slot.toNat ((0 : Int), ((0 : Int), ((List.replicate 32 (0 : Int)), (List.replicate 32 (0 : Int)))))).2.2.2))))) h ?_
                                            kernel_rfl
                                          · have hq : (True) ∧ ((True) ∧ ((True) ∧ (((True) ∧ (c_Kind == (9 : Int)) = true) ∧ ((True) ∧ ((True) ∧ ((c_Slot.toNat < 9 ∧ (c_End.toNat < 32 ∧ (True))) ∧ ((True) ∧ (((True) ∧ ((((b_Slots.getD c_Slot.toNat ((0 : Int), ((0 : Int), ((List.replicate 32 (0 : Int)), (List.replicate 32 (0 : Int)))))).2.2.1).getD c_End.toNat (0 : Int)) == (3 : Int)) = false) ∧ ((True) ∧ ((True) ∧ ((c_Slot.toNat < 9 ∧ (c_End.toNat < 32 ∧ (True))) ∧ ((True) ∧ ((True) ∧ ((True) ∧ ((True) ∧ (True)))))))))))))))) := ⟨trivial, ⟨trivial, ⟨trivial, ⟨⟨trivial, c75⟩, ⟨trivial, ⟨trivial, ⟨⟨inR_lt (inb_ok t15), ⟨inR_lt (inb_ok t58), trivial⟩⟩, ⟨trivial, ⟨⟨trivial, c78⟩, ⟨trivial, ⟨trivial, ⟨⟨inR_lt (inb_ok t15), ⟨inR_lt (inb_ok t58), trivial⟩⟩, ⟨trivial, ⟨trivial, ⟨trivial, ⟨trivial, trivial⟩⟩⟩⟩⟩⟩⟩⟩⟩⟩⟩⟩⟩⟩⟩⟩
                                            refine TS.reg [.none, .none, .none, .dec true, .none, .none, .none, .none, .dec false] ?_ ?_
                                            · apply prop_of ?_ hq
                                              kernel_rfl
                                            refine XS.then ?_
                                            rcases bif_some h with ⟨c79, h⟩ | ⟨c80, h⟩
                                            · refine TS.cond ((((b_Slots.getD c_Slot.toNat ((0 : Int), ((0 : Int), ((List.replicate 32 (0 : Int)), (List.replicate 32 (0 : Int)))))).2.2.1).getD c_End.toNat (0 : Int)) == (1 : Int)) ?_ (fun e => ?_) (fun e => by rw [c79] at e; cases e)
                                              · kernel_rfl
                                              have hq : (True) ∧ ((True) ∧ ((c_Slot.toNat < 9 ∧ (c_End.toNat < 32 ∧ (True))) ∧ (True))) := ⟨trivial, ⟨trivial, ⟨⟨inR_lt (inb_ok t15), ⟨inR_lt (inb_ok t58), trivial⟩⟩, trivial⟩⟩⟩
                                              refine TS.reg [] ?_ ?_
                                              · apply prop_of ?_ hq
                                                kernel_rfl
                                              refine XS.blockEnd ?_
                                              refine XS.then ?_
                                              refine TS.seq ?_
                                              have hq : (True) ∧ (True) := ⟨trivial, trivial⟩
                                              refine TS.reg [] ?_ ?_
                                              · apply prop_of ?_ hq
                                                kernel_rfl
                                              refine XS.then ?_
                                              refine TS.ret ?_
                                              refine XS.backR 0 (mkTs 95 [(2, (.ptr 1 [])), (3, (.ptr 2 [])), (4, (.ptr 3 [])), (7, (.ptr 4 [])), (11, (.int .i64 (1 : Int)))]) (mkTs 95 [(2, (.ptr 1 [])), (3, (.ptr 2 [])), (4, (.ptr 3 [])), (7, (.ptr 4 [])), (11, (.int .i64 (1 : Int))), (59, (.int .i64 (1 : Int)))], [.dead, (.box 36 (.st (.arr 9 (.st (.pair (.int .i64) (.pair (.int .i64) (.pair (.arr 32 (.int .i64)) (.arr 32 (.int .i64)))))) b_Slots))), (.box 23 (.st (.cons (.int .i64 c_Kind) (.cons (.int .i64 c_Slot) (.cons (.int .i64 c_End) (.int .i64 c_Arg)))))), (.box 36 (.st (.arr 9 (.st (.pair (.int .i64) (.pair (.int .i64) (.pair (.arr 32 (.int .i64)) (.arr 32 (.int .i64)))))) (List.replicate 9 ((0 : Int), ((0 : Int), ((List.replicate 32 (0 : Int)), (List.replicate 32 (0 : Int))))))))), (.box 36 (.st (.arr 9 (.st (.pair (.int .i64) (.pair (.int .i64) (.pair (.arr 32 (.int .i64)) (.arr 32 (.int .i64)))))) (b_Slots.set c_Slot.toNat ((b_Slots.getD c_Slot.toNat ((0 : Int), ((0 : Int), ((List.replicate 32 (0 : Int)), (List.replicate 32 (0 : Int)))))).1, ((b_Slots.getD c_Slot.toNat ((0 : Int), ((0 : Int), ((List.replicate 32 (0 : Int)), (List.replicate 32 (0 : Int)))))).2.1, ((((b_Slots.getD c_Slot.toNat ((0 : Int), ((0 : Int), ((List.replicate 32 (0 : Int)), (List.replicate 32 (0 : Int)))))).2.2.1).set c_End.toNat (1 : Int)), (b_Slots.getD c_Slot.toNat ((0 : Int), ((0 : Int), ((List.replicate 32 (0 : Int)), (List.replicate 32 (0 : Int)))))).2.2.2))))))), (.box 23 (.st (.cons (.int .i64 c_Kind) (.cons (.int .i64 c_Slot) (.cons (.int .i64 c_End) (.int .i64 c_Arg))))))]) ((True) ∧ (True)) (by kernel_rfl) (by kernel_rfl) ⟨trivial, trivial⟩ ?_
                                              refine KS.opsOf ?_
                                              have hq : (True) ∧ (True) := ⟨trivial, trivial⟩
                                              refine TOS.run 1 [] (by kernel_rfl) ?_ ?_
                                              · apply prop_of ?_ hq
                                                kernel_rfl
                                              refine TOS.nil (by kernel_rfl) ?_
                                              refine XS.blockEnd ?_
                                              refine XS.reAny [1, 2, 3, 4] (mkMask 95 [2, 3, 4, 7, 11]) ((1 : Int), (b_Slots.set c_Slot.toNat ((b_Slots.getD c_Slot.toNat ((0 : Int), ((0 : Int), ((List.replicate 32 (0 : Int)), (List.replicate 32 (0 : Int)))))).1, ((b_Slots.getD c_Slot.toNat ((0 : Int), ((0 : Int), ((List.replicate 32 (0 : Int)), (List.replicate 32 (0 : Int)))))).2.1, ((((b_Slots.getD c_Slot.toNat ((0 : Int), ((0 : Int), ((List.replicate 32 (0 : Int)), (List.replicate 32 (0 : Int)))))).2.2.1).set c_End.toNat (1 : Int)), (b_Slots.getD c_Slot.toNat ((0 : Int), ((0 : Int), ((List.replicate 32 (0 : Int)), (List.replicate 32 (0 : Int)))))).2.2.2))))) h ?_
                                              kernel_rfl
                                            · refine TS.cond ((((b_Slots.getD c_Slot.toNat ((0 : Int), ((0 : Int), ((List.replicate 32 (0 : Int)), (List.replicate 32 (0 : Int)))))).2.2.1).getD c_End.toNat (0 : Int)) == (1 : Int)) ?_ (fun e => by rw [c80] at e; cases e) (fun e => ?_)
                                              · kernel_rfl
                                              refine TS.seq ?_
                                              have hq : (True) ∧ (True) := ⟨trivial, trivial⟩
                                              refine TS.reg [] ?_ ?_
                                              · apply prop_of ?_ hq
                                                kernel_rfl
                                              refine XS.then ?_
                                              refine TS.ret ?_
                                              refine XS.blockRet ?_
                                              refine XS.passR ?_
                                              refine XS.backR 0 (mkTs 95 [(2, (.ptr 1 [])), (3, (.ptr 2 [])), (4, (.ptr 3 [])), (7, (.ptr 4 [])), (11, (.int .i64 (1 : Int)))]) (mkTs 95 [(2, (.ptr 1 [])), (3, (.ptr 2 [])), (4, (.ptr 3 [])), (7, (.ptr 4 [])), (11, (.int .i64 (1 : Int))), (59, (.int .i64 (19 : Int)))], [.dead, (.box 36 (.st (.arr 9 (.st (.pair (.int .i64) (.pair (.int .i64) (.pair (.arr 32 (.int .i64)) (.arr 32 (.int .i64)))))) b_Slots))), (.box 23 (.st (.cons (.int .i64 c_Kind) (.cons (.int .i64 c_Slot) (.cons (.int .i64 c_End) (.int .i64 c_Arg)))))), (.box 36 (.st (.arr 9 (.st (.pair (.int .i64) (.pair (.int .i64) (.pair (.arr 32 (.int .i64)) (.arr 32 (.int .i64)))))) (List.replicate 9 ((0 : Int), ((0 : Int), ((List.replicate 32 (0 : Int)), (List.replicate 32 (0 : Int))))))))), (.box 36 (.st (.arr 9 (.st (.pair (.int .i64) (.pair (.int .i64) (.pair (.arr 32 (.int .i64)) (.arr 32 (.int .i64)))))) b_Slots))), (.box 23 (.st (.cons (.int .i64 c_Kind) (.cons (.int .i64 c_Slot) (.cons (.int .i64 c_End) (.int .i64 c_Arg))))))]) ((True) ∧ (True)) (by kernel_rfl) (by kernel_rfl) ⟨trivial, trivial⟩ ?_
                                              refine KS.opsOf ?_
                                              have hq : (True) ∧ (True) := ⟨trivial, trivial⟩
                                              refine TOS.run 1 [] (by kernel_rfl) ?_ ?_
                                              · apply prop_of ?_ hq
                                                kernel_rfl
                                              refine TOS.nil (by kernel_rfl) ?_
                                              refine XS.blockEnd ?_
                                              refine XS.reAny [1, 2, 3, 4] (mkMask 95 [2, 3, 4, 7, 11]) ((19 : Int), b_Slots) h ?_
                                              kernel_rfl
                                        · have hq : (True) ∧ ((True) ∧ ((True) ∧ (((True) ∧ (c_Kind == (9 : Int)) = false) ∧ ((True) ∧ ((True) ∧ (True)))))) := ⟨trivial, ⟨trivial, ⟨trivial, ⟨⟨trivial, c76⟩, ⟨trivial, ⟨trivial, trivial⟩⟩⟩⟩⟩⟩
                                          refine TS.reg [.none, .none, .none, .dec false] ?_ ?_
                                          · apply prop_of ?_ hq
                                            kernel_rfl
                                          refine XS.then ?_
                                          refine TS.no ?_ ?_
                                          · kernel_rfl
                                          refine TS.seq ?_
                                          have hq : (True) ∧ (True) := ⟨trivial, trivial⟩
                                          refine TS.reg [] ?_ ?_
                                          · apply prop_of ?_ hq
                                            kernel_rfl
                                          refine XS.then ?_
                                          refine TS.ret ?_
                                          refine XS.blockRet ?_
                                          refine XS.passR ?_
                                          refine XS.backR 0 (mkTs 95 [(2, (.ptr 1 [])), (3, (.ptr 2 [])), (4, (.ptr 3 [])), (7, (.ptr 4 [])), (11, (.int .i64 (1 : Int)))]) (mkTs 95 [(2, (.ptr 1 [])), (3, (.ptr 2 [])), (4, (.ptr 3 [])), (7, (.ptr 4 [])), (11, (.int .i64 (1 : Int))), (59, (.int .i64 (19 : Int)))], [.dead, (.box 36 (.st (.arr 9 (.st (.pair (.int .i64) (.pair (.int .i64) (.pair (.arr 32 (.int .i64)) (.arr 32 (.int .i64)))))) b_Slots))), (.box 23 (.st (.cons (.int .i64 c_Kind) (.cons (.int .i64 c_Slot) (.cons (.int .i64 c_End) (.int .i64 c_Arg)))))), (.box 36 (.st (.arr 9 (.st (.pair (.int .i64) (.pair (.int .i64) (.pair (.arr 32 (.int .i64)) (.arr 32 (.int .i64)))))) (List.replicate 9 ((0 : Int), ((0 : Int), ((List.replicate 32 (0 : Int)), (List.replicate 32 (0 : Int))))))))), (.box 36 (.st (.arr 9 (.st (.pair (.int .i64) (.pair (.int .i64) (.pair (.arr 32 (.int .i64)) (.arr 32 (.int .i64)))))) b_Slots))), (.box 23 (.st (.cons (.int .i64 c_Kind) (.cons (.int .i64 c_Slot) (.cons (.int .i64 c_End) (.int .i64 c_Arg))))))]) ((True) ∧ (True)) (by kernel_rfl) (by kernel_rfl) ⟨trivial, trivial⟩ ?_
                                          refine KS.opsOf ?_
                                          have hq : (True) ∧ (True) := ⟨trivial, trivial⟩
                                          refine TOS.run 1 [] (by kernel_rfl) ?_ ?_
                                          · apply prop_of ?_ hq
                                            kernel_rfl
                                          refine TOS.nil (by kernel_rfl) ?_
                                          refine XS.blockEnd ?_
                                          refine XS.reAny [1, 2, 3, 4] (mkMask 95 [2, 3, 4, 7, 11]) ((19 : Int), b_Slots) h ?_
                                          kernel_rfl
                                  · rcases bif_some h with ⟨c81, h⟩ | ⟨c82, h⟩
                                    · rcases bif_some h with ⟨c83, h⟩ | ⟨c84, h⟩
                                      · have hq : (True) ∧ ((True) ∧ ((True) ∧ (((True) ∧ (c_Kind == (8 : Int)) = true) ∧ ((True) ∧ ((True) ∧ ((True) ∧ (((True) ∧ (decide (c_Arg < (0 : Int))) = true) ∧ ((True) ∧ ((True) ∧ ((True) ∧ (True))))))))))) := ⟨trivial, ⟨trivial, ⟨trivial, ⟨⟨trivial, c81⟩, ⟨trivial, ⟨trivial, ⟨trivial, ⟨⟨trivial, c83⟩, ⟨trivial, ⟨trivial, ⟨trivial, trivial⟩⟩⟩⟩⟩⟩⟩⟩⟩⟩⟩
                                        refine TS.reg [.none, .none, .none, .dec true, .none, .none, .none, .dec true] ?_ ?_
                                        · apply prop_of ?_ hq
                                          kernel_rfl
                                        refine XS.reAny [0, 1, 2, 3, 4, 5] (mkMask 101 [0, 3, 5, 51]) true h ?_
                                        kernel_rfl
                                      · have hq : (True) ∧ ((True) ∧ ((True) ∧ (((True) ∧ (c_Kind == (8 : Int)) = true) ∧ ((True) ∧ ((True) ∧ ((True) ∧ (((True) ∧ (decide (c_Arg < (0 : Int))) = false) ∧ ((True) ∧ ((True) ∧ ((True) ∧ ((True) ∧ ((True) ∧ ((True) ∧ (True)))))))))))))) := ⟨trivial, ⟨trivial, ⟨trivial, ⟨⟨trivial, c81⟩, ⟨trivial, ⟨trivial, ⟨trivial, ⟨⟨trivial, c84⟩, ⟨trivial, ⟨trivial, ⟨trivial, ⟨trivial, ⟨trivial, ⟨trivial, trivial⟩⟩⟩⟩⟩⟩⟩⟩⟩⟩⟩⟩⟩⟩
                                        refine TS.reg [.none, .none, .none, .dec true, .none, .none, .none, .dec false] ?_ ?_
                                        · apply prop_of ?_ hq
                                          kernel_rfl
                                        refine XS.reAny [0, 1, 2, 3, 4, 5] (mkMask 101 [0, 3, 5, 51]) (decide (c_Arg > (65535 : Int))) h ?_
                                        kernel_rfl
                                    · have hq : (True) ∧ ((True) ∧ ((True) ∧ (((True) ∧ (c_Kind == (8 : Int)) = false) ∧ ((True) ∧ ((True) ∧ (True)))))) := ⟨trivial, ⟨trivial, ⟨trivial, ⟨⟨trivial, c82⟩, ⟨trivial, ⟨trivial, trivial⟩⟩⟩⟩⟩⟩
                                      refine TS.reg [.none, .none, .none, .dec false] ?_ ?_
                                      · apply prop_of ?_ hq
                                        kernel_rfl
                                      refine XS.reAny [0, 1, 2, 3, 4, 5] (mkMask 101 [0, 3, 5, 51]) false h ?_
                                      kernel_rfl
                              · rcases bif_some h with ⟨c85, h⟩ | ⟨c86, h⟩
                                · refine TS.cond ((((b_Slots.getD c_Slot.toNat ((0 : Int), ((0 : Int), ((List.replicate 32 (0 : Int)), (List.replicate 32 (0 : Int)))))).2.2.1).getD c_End.toNat (0 : Int)) == (2 : Int)) ?_ (fun e => ?_) (fun e => by rw [c85] at e; cases e)
                                  · kernel_rfl
                                  refine TS.skip ?_
                                  refine XS.reAny [4, 0, 1, 2, 3, 5] (mkMask 101 [0, 3, 5, 30]) ((((b_Slots.getD c_Slot.toNat ((0 : Int), ((0 : Int), ((List.replicate 32 (0 : Int)), (List.replicate 32 (0 : Int)))))).2.2.1).getD c_End.toNat (0 : Int)) == (2 : Int)) h ?_
                                  kernel_rfl
                                · refine TS.cond ((((b_Slots.getD c_Slot.toNat ((0 : Int), ((0 : Int), ((List.replicate 32 (0 : Int)), (List.replicate 32 (0 : Int)))))).2.2.1).getD c_End.toNat (0 : Int)) == (2 : Int)) ?_ (fun e => by rw [c86] at e; cases e) (fun e => ?_)
                                  · kernel_rfl
                                  rcases bif_some h with ⟨c87, h⟩ | ⟨c88, h⟩
                                  · have hq : (True) ∧ ((True) ∧ ((True) ∧ (((True) ∧ (c_Kind == (7 : Int)) = true) ∧ ((True) ∧ ((True) ∧ ((c_Slot.toNat < 9 ∧ (c_End.toNat < 32 ∧ (True))) ∧ ((True) ∧ ((True) ∧ ((True) ∧ (True)))))))))) := ⟨trivial, ⟨trivial, ⟨trivial, ⟨⟨trivial, c87⟩, ⟨trivial, ⟨trivial, ⟨⟨inR_lt (inb_ok t15), ⟨inR_lt (inb_ok t58), trivial⟩⟩, ⟨trivial, ⟨trivial, ⟨trivial, trivial⟩⟩⟩⟩⟩⟩⟩⟩⟩⟩
                                    refine TS.reg [.none, .none, .none, .dec true] ?_ ?_
                                    · apply prop_of ?_ hq
                                      kernel_rfl
                                    refine XS.reAny [4, 0, 1, 2, 3, 5] (mkMask 101 [0, 3, 5, 30]) ((((b_Slots.getD c_Slot.toNat ((0 : Int), ((0 : Int), ((List.replicate 32 (0 : Int)), (List.replicate 32 (0 : Int)))))).2.2.1).getD c_End.toNat (0 : Int)) == (1 : Int)) h ?_
                                    kernel_rfl
                                  · have hq : (True) ∧ ((True) ∧ ((True) ∧ (((True) ∧ (c_Kind == (7 : Int)) = false) ∧ ((True) ∧ ((True) ∧ (True)))))) := ⟨trivial, ⟨trivial, ⟨trivial, ⟨⟨trivial, c88⟩, ⟨trivial, ⟨trivial, trivial⟩⟩⟩⟩⟩⟩
                                    refine TS.reg [.none, .none, .none, .dec false] ?_ ?_
                                    · apply prop_of ?_ hq
                                      kernel_rfl
                                    refine XS.reAny [4, 0, 1, 2, 3, 5] (mkMask 101 [0, 3, 5, 30]) false h ?_
                                    kernel_rfl
                            · have hq : (True) ∧ ((True) ∧ ((True) ∧ (((True) ∧ (c_Kind == (6 : Int)) = false) ∧ ((True) ∧ ((True) ∧ (True)))))) := ⟨trivial, ⟨trivial, ⟨trivial, ⟨⟨trivial, c62⟩, ⟨trivial, ⟨trivial, trivial⟩⟩⟩⟩⟩⟩
                              refine TS.reg [.none, .none, .none, .dec false] ?_ ?_
                              · apply prop_of ?_ hq
                                kernel_rfl
                              refine XS.then ?_
                              refine TS.no ?_ ?_
                              · kernel_rfl
                              rcases bif_some h with ⟨c89, h⟩ | ⟨c90, h⟩
                              · have hq : (True) ∧ ((True) ∧ ((True) ∧ (((True) ∧ (c_Kind == (7 : Int)) = true) ∧ ((True) ∧ ((True) ∧ ((c_Slot.toNat < 9 ∧ (c_End.toNat < 32 ∧ (True))) ∧ ((True) ∧ ((True) ∧ ((True) ∧ (True)))))))))) := ⟨trivial, ⟨trivial, ⟨trivial, ⟨⟨trivial, c89⟩, ⟨trivial, ⟨trivial, ⟨⟨inR_lt (inb_ok t15), ⟨inR_lt (inb_ok t58), trivial⟩⟩, ⟨trivial, ⟨trivial, ⟨trivial, trivial⟩⟩⟩⟩⟩⟩⟩⟩⟩⟩
                                refine TS.reg [.none, .none, .none, .dec true] ?_ ?_
                                · apply prop_of ?_ hq
                                  kernel_rfl
                                refine XS.then ?_
                                rcases bif_some h with ⟨c91, h⟩ | ⟨c92, h⟩
                                · refine TS.cond ((((b_Slots.getD c_Slot.toNat ((0 : Int), ((0 : Int), ((List.replicate 32 (0 : Int)), (List.replicate 32 (0 : Int)))))).2.2.1).getD c_End.toNat (0 : Int)) == (1 : Int)) ?_ (fun e => ?_) (fun e => by rw [c91] at e; cases e)
                                  · kernel_rfl
                                  have hq : (True) ∧ ((True) ∧ ((c_Slot.toNat < 9 ∧ (c_End.toNat < 32 ∧ (True))) ∧ (True))) := ⟨trivial, ⟨trivial, ⟨⟨inR_lt (inb_ok t15), ⟨inR_lt (inb_ok t58), trivial⟩⟩, trivial⟩⟩⟩
                                  refine TS.reg [] ?_ ?_
                                  · apply prop_of ?_ hq
                                    kernel_rfl
                                  refine XS.blockEnd ?_
                                  refine XS.then ?_
                                  refine TS.seq ?_
                                  have hq : (True) ∧ (True) := ⟨trivial, trivial⟩
                                  refine TS.reg [] ?_ ?_
                                  · apply prop_of ?_ hq
                                    kernel_rfl
                                  refine XS.then ?_
                                  refine TS.ret ?_
                                  refine XS.backR 4 (mkTs 95 [(2, (.ptr 0 [])), (3, (.ptr 1 [])), (4, (.ptr 2 [])), (7, (.ptr 3 [])), (11, (.int .i64 (1 : Int)))]) (mkTs 95 [(2, (.ptr 0 [])), (3, (.ptr 1 [])), (4, (.ptr 2 [])), (7, (.ptr 3 [])), (11, (.int .i64 (1 : Int))), (59, (.int .i64 (1 : Int)))], [(.box 36 (.st (.arr 9 (.st (.pair (.int .i64) (.pair (.int .i64) (.pair (.arr 32 (.int .i64)) (.arr 32 (.int .i64)))))) b_Slots))), (.box 23 (.st (.cons (.int .i64 c_Kind) (.cons (.int .i64 c_Slot) (.cons (.int .i64 c_End) (.int .i64 c_Arg)))))), (.box 36 (.st (.arr 9 (.st (.pair (.int .i64) (.pair (.int .i64) (.pair (.arr 32 (.int .i64)) (.arr 32 (.int .i64)))))) (List.replicate 9 ((0 : Int), ((0 : Int), ((List.replicate 32 (0 : Int)), (List.replicate 32 (0 : Int))))))))), (.box 36 (.st (.arr 9 (.st (.pair (.int .i64) (.pair (.int .i64) (.pair (.arr 32 (.int .i64)) (.arr 32 (.int .i64)))))) (b_Slots.set c_Slot.toNat ((b_Slots.getD c_Slot.toNat ((0 : Int), ((0 : Int), ((List.replicate 32 (0 : Int)), (List.replicate 32 (0 : Int)))))).1, ((b_Slots.getD c_Slot.toNat ((0 : Int), ((0 : Int), ((List.replicate 32 (0 : Int)), (List.replicate 32 (0 : Int)))))).2.1, ((((b_Slots.getD c_Slot.toNat ((0 : Int), ((0 : Int), ((List.replicate 32 (0 : Int)), (List.replicate 32 (0 : Int)))))).2.2.1).set c_End.toNat (3 : Int)), (b_Slots.getD c_Slot.toNat ((0 : Int), ((0 : Int), ((List.replicate 32 (0 : Int)), (List.replicate 32 (0 : Int)))))).2.2.2))))))), .dead, (.box 23 (.st (.cons (.int .i64 c_Kind) (.cons (.int .i64 c_Slot) (.cons (.int .i64 c_End) (.int .i64 c_Arg))))))]) ((True) ∧ (True)) (by kernel_rfl) (by kernel_rfl) ⟨trivial, trivial⟩ ?_
                                  refine KS.opsOf ?_
                                  have hq : (True) ∧ (True) := ⟨trivial, trivial⟩
                                  refine TOS.run 1 [] (by kernel_rfl) ?_ ?_
                                  · apply prop_of ?_ hq
                                    kernel_rfl
                                  refine TOS.nil (by kernel_rfl) ?_
                                  refine XS.blockEnd ?_
                                  refine XS.reAny [0, 1, 2, 3] (mkMask 95 [2, 3, 4, 7, 11]) ((1 : Int), (b_Slots.set c_Slot.toNat ((b_Slots.getD c_Slot.toNat ((0 : Int), ((0 : Int), ((List.replicate 32 (0 : Int)), (List.replicate 32 (0 : Int)))))).1, ((b_Slots.getD c_Slot.toNat ((0 : Int), ((0 : Int), ((List.replicate 32 (0 : Int)), (List.replicate 32 (0 : Int)))))).2.1, ((((b_Slots.getD c_Slot.toNat ((0 : Int), ((0 : Int), ((List.replicate 32 (0 : Int)), (List.replicate 32 (0 : Int)))))).2.2.1).set c_End.toNat (3 : Int)), (b_Slots.getD c_Slot.toNat ((0 : Int), ((0 : Int), ((List.replicate 32 (0 : Int)), (List.replicate 32 (0 : Int)))))).2.2.2))))) h ?_
                                  kernel_rfl
                                · refine TS.cond ((((b_Slots.getD c_Slot.toNat ((0 : Int), ((0 : Int), ((List.replicate 32 (0 : Int)), (List.replicate 32 (0 : Int)))))).2.2.1).getD c_End.toNat (0 : Int)) == (1 : Int)) ?_ (fun e => by rw [c92] at e; cases e) (fun e => ?_)
                                  · kernel_rfl
                                  refine TS.seq ?_
                                  refine TS.cut (D := Bool) (fun d => match d with | x_13 => (mkTs 101 [(0, (.ptr 4 [.fld 0 0, .idx c_Slot.toNat 66])), (3, (.ptr 5 [])), (5, (.ptr 4 [.fld 0 0, .idx c_Slot.toNat 66, .fld 2 2, .idx c_End.toNat 1])), (51, (.bool x_13))], [(.sav (mkTs 95 [(2, (.ptr 1 [])), (3, (.ptr 2 [])), (4, (.ptr 3 [])), (7, (.ptr 4 [])), (11, (.int .i64 (1 : Int)))]) fv14), (.box 36 (.st (.arr 9 (.st (.pair (.int .i64) (.pair (.int .i64) (.pair (.arr 32 (.int .i64)) (.arr 32 (.int .i64)))))) b_Slots))), (.box 23 (.st (.cons (.int .i64 c_Kind) (.cons (.int .i64 c_Slot) (.cons (.int .i64 c_End) (.int .i64 c_Arg)))))), (.box 36 (.st (.arr 9 (.st (.pair (.int .i64) (.pair (.int .i64) (.pair (.arr 32 (.int .i64)) (.arr 32 (.int .i64)))))) (List.replicate 9 ((0 : Int), ((0 : Int), ((List.replicate 32 (0 : Int)), (List.replicate 32 (0 : Int))))))))), (.box 36 (.st (.arr 9 (.st (.pair (.int .i64) (.pair (.int .i64) (.pair (.arr 32 (.int .i64)) (.arr 32 (.int .i64)))))) b_Slots))), (.box 23 (.st (.cons (.int .i64 c_Kind) (.cons (.int .i64 c_Slot) (.cons (.int .i64 c_End) (.int .i64 c_Arg))))))])) (fun d => F21_j91 n b_Slots c_Kind c_Slot c_End c_Arg d = some r) ?_ ?_
                                  · rintro x_13 h
                                    replace h : (bif x_13 then (F21_j71 n b_Slots c_Slot ((17 : Int), b_Slots)) else (bif (c_Kind == (8 : Int)) then (bif ((((b_Slots.getD c_Slot.toNat ((0 : Int), ((0 : Int), ((List.replicate 32 (0 : Int)), (List.replicate 32 (0 : Int)))))).2.2.1).getD c_End.toNat (0 : Int)) == (3 : Int)) then (F21_j71 n b_Slots c_Slot ((1 : Int), (b_Slots.set c_Slot.toNat ((b_Slots.getD c_Slot.toNat ((0 : Int), ((0 : Int), ((List.replicate 32 (0 : Int)), (List.replicate 32 (0 : Int)))))).1, ((b_Slots.getD c_Slot.toNat ((0 : Int), ((0 : Int), ((List.replicate 32 (0 : Int)), (List.replicate 32 (0 : Int)))))).2.1, ((b_Slots.getD c_Slot.toNat ((0 : Int), ((0 : Int), ((List.replicate 32 (0 : Int)), (List.replicate 32 (0 : Int)))))).2.2.1, (((b_Slots.getD c_Slot.toNat ((0 : Int), ((0 : Int), ((List.replicate 32 (0 : Int)), (List.replicate 32 (0 : Int)))))).2.2.2).set c_End.toNat c_Arg))))))) else (bif (c_Kind == (9 : Int)) then (F21_j71 n b_Slots c_Slot ((19 : Int), b_Slots)) else (F21_j71 n b_Slots c_Slot ((19 : Int), b_Slots)))) else (bif (c_Kind == (9 : Int)) then (bif ((((b_Slots.getD c_Slot.toNat ((0 : Int), ((0 : Int), ((List.replicate 32 (0 : Int)), (List.replicate 32 (0 : Int)))))).2.2.1).getD c_End.toNat (0 : Int)) == (3 : Int)) then (F21_j71 n b_Slots c_Slot ((1 : Int), (b_Slots.set c_Slot.toNat ((b_Slots.getD c_Slot.toNat ((0 : Int), ((0 : Int), ((List.replicate 32 (0 : Int)), (List.replicate 32 (0 : Int)))))).1, ((b_Slots.getD c_Slot.toNat ((0 : Int), ((0 : Int), ((List.replicate 32 (0 : Int)), (List.replicate 32 (0 : Int)))))).2.1, ((((b_Slots.getD c_Slot.toNat ((0 : Int), ((0 : Int), ((List.replicate 32 (0 : Int)), (List.replicate 32 (0 : Int)))))).2.2.1).set c_End.toNat (1 : Int)), (b_Slots.getD c_Slot.toNat ((0 : Int), ((0 : Int), ((List.replicate 32 (0 : Int)), (List.replicate 32 (0 : Int)))))).2.2.2)))))) else (F21_j71 n b_Slots c_Slot ((19 : Int), b_Slots))) else (F21_j71 n b_Slots c_Slot ((19 : Int), b_Slots))))) = some r := h
                                    refine XS.then ?_
                                    rcases bif_some h with ⟨c93, h⟩ | ⟨c94, h⟩
                                    · refine TS.cond x_13 ?_ (fun e => ?_) (fun e => by rw [c93] at e; cases e)
                                      · kernel_rfl
                                      refine TS.seq ?_
                                      have hq : (True) ∧ (True) := ⟨trivial, trivial⟩
                                      refine TS.reg [] ?_ ?_
                                      · apply prop_of ?_ hq
                                        kernel_rfl
                                      refine XS.then ?_
                                      refine TS.ret ?_
                                      refine XS.blockRet ?_
                                      refine XS.passR ?_
                                      refine XS.backR 0 (mkTs 95 [(2, (.ptr 1 [])), (3, (.ptr 2 [])), (4, (.ptr 3 [])), (7, (.ptr 4 [])), (11, (.int .i64 (1 : Int)))]) (mkTs 95 [(2, (.ptr 1 [])), (3, (.ptr 2 [])), (4, (.ptr 3 [])), (7, (.ptr 4 [])), (11, (.int .i64 (1 : Int))), (59, (.int .i64 (17 : Int)))], [.dead, (.box 36 (.st (.arr 9 (.st (.pair (.int .i64) (.pair (.int .i64) (.pair (.arr 32 (.int .i64)) (.arr 32 (.int .i64)))))) b_Slots))), (.box 23 (.st (.cons (.int .i64 c_Kind) (.cons (.int .i64 c_Slot) (.cons (.int .i64 c_End) (.int .i64 c_Arg)))))), (.box 36 (.st (.arr 9 (.st (.pair (.int .i64) (.pair (.int .i64) (.pair (.arr 32 (.int .i64)) (.arr 32 (.int .i64)))))) (List.replicate 9 ((0 : Int), ((0 : Int), ((List.replicate 32 (0 : Int)), (List.replicate 32 (0 : Int))))))))), (.box 36 (.st (.arr 9 (.st (.pair (.int .i64) (.pair (.int .i64) (.pair (.arr 32 (.int .i64)) (.arr 32 (.int .i64)))))) b_Slots))), (.box 23 (.st (.cons (.int .i64 c_Kind) (.cons (.int .i64 c_Slot) (.cons (.int .i64 c_End) (.int .i64 c_Arg))))))]) ((True) ∧ (True)) (by kernel_rfl) (by kernel_rfl) ⟨trivial, trivial⟩ ?_
                                      refine KS.opsOf ?_
                                      have hq : (True) ∧ (True) := ⟨trivial, trivial⟩
                                      refine TOS.run 1 [] (by kernel_rfl) ?_ ?_
                                      · apply prop_of ?_ hq
                                        kernel_rfl
                                      refine TOS.nil (by kernel_rfl) ?_
                                      refine XS.blockEnd ?_
                                      refine XS.reAny [1, 2, 3, 4] (mkMask 95 [2, 3, 4, 7, 11]) ((17 : Int), b_Slots) h ?_
                                      kernel_rfl
                                    · refine TS.cond x_13 ?_ (fun e => by rw [c94] at e; cases e) (fun e => ?_)
                                      · kernel_rfl
                                      refine TS.seq ?_
                                      rcases bif_some h with ⟨c95, h⟩ | ⟨c96, h⟩
                                      · have hq : (True) ∧ ((True) ∧ ((True) ∧ (((True) ∧ (c_Kind == (8 : Int)) = true) ∧ ((True) ∧ ((True) ∧ ((c_Slot.toNat < 9 ∧ (c_End.toNat < 32 ∧ (True))) ∧ ((True) ∧ ((True) ∧ ((True) ∧ (True)))))))))) := ⟨trivial, ⟨trivial, ⟨trivial, ⟨⟨trivial, c95⟩, ⟨trivial, ⟨trivial, ⟨⟨inR_lt (inb_ok t15), ⟨inR_lt (inb_ok t58), trivial⟩⟩, ⟨trivial, ⟨trivial, ⟨trivial, trivial⟩⟩⟩⟩⟩⟩⟩⟩⟩⟩
                                        refine TS.reg [.none, .none, .none, .dec true] ?_ ?_
                                        · apply prop_of ?_ hq
                                          kernel_rfl
                                        refine XS.then ?_
                                        rcases bif_some h with ⟨c97, h⟩ | ⟨c98, h⟩
                                        · refine TS.cond ((((b_Slots.getD c_Slot.toNat ((0 : Int), ((0 : Int), ((List.replicate 32 (0 : Int)), (List.replicate 32 (0 : Int)))))).2.2.1).getD c_End.toNat (0 : Int)) == (3 : Int)) ?_ (fun e => ?_) (fun e => by rw [c97] at e; cases e)
                                          · kernel_rfl
                                          have hq : ((True) ∧ ((True) ∧ ((True) ∧ ((True) ∧ ((True) ∧ ((True) ∧ ((True) ∧ ((inR c_End 32) ∧ (True))))))))) ∧ ((c_Slot.toNat < 9 ∧ (c_End.toNat < 32 ∧ (True))) ∧ (True)) := ⟨⟨trivial, ⟨trivial, ⟨trivial, ⟨trivial, ⟨trivial, ⟨trivial, ⟨trivial, ⟨inb_ok t58, trivial⟩⟩⟩⟩⟩⟩⟩⟩, ⟨⟨inR_lt (inb_ok t15), ⟨inR_lt (inb_ok t58), trivial⟩⟩, trivial⟩⟩
                                          refine TS.draw 8 [] [] (by kernel_rfl) ?_ ?_
                                          · apply prop_of ?_ hq
                                            kernel_rfl
                                          refine XS.blockEnd ?_
                                          refine XS.then ?_
                                          refine TS.seq ?_
                                          have hq : (True) ∧ (True) := ⟨trivial, trivial⟩
                                          refine TS.reg [] ?_ ?_
                                          · apply prop_of ?_ hq
                                            kernel_rfl
                                          refine XS.then ?_
                                          refine TS.ret ?_
                                          refine XS.backR 0 (mkTs 95 [(2, (.ptr 1 [])), (3, (.ptr 2 [])), (4, (.ptr 3 [])), (7, (.ptr 4 [])), (11, (.int .i64 (1 : Int)))]) (mkTs 95 [(2, (.ptr 1 [])), (3, (.ptr 2 [])), (4, (.ptr 3 [])), (7, (.ptr 4 [])), (11, (.int .i64 (1 : Int))), (59, (.int .i64 (1 : Int)))], [.dead, (.box 36 (.st (.arr 9 (.st (.pair (.int .i64) (.pair (.int .i64) (.pair (.arr 32 (.int .i64)) (.arr 32 (.int .i64)))))) b_Slots))), (.box 23 (.st (.cons (.int .i64 c_Kind) (.cons (.int .i64 c_Slot) (.cons (.int .i64 c_End) (.int .i64 c_Arg)))))), (.box 36 (.st (.arr 9 (.st (.pair (.int .i64) (.pair (.int .i64) (.pair (.arr 32 (.int .i64)) (.arr 32 (.int .i64)))))) (List.replicate 9 ((0 : Int), ((0 : Int), ((List.replicate 32 (0 : Int)), (List.replicate 32 (0 : Int))))))))), (.box 36 (.st (.arr 9 (.st (.pair (.int .i64) (.pair (.int .i64) (.pair (.arr 32 (.int .i64)) (.arr 32 (.int .i64)))))) (b_Slots.set c_Slot.toNat ((b_Slots.getD c_Slot.toNat ((0 : Int), ((0 : Int), ((List.replicate 32 (0 : Int)), (List.replicate 32 (0 : Int)))))).1, ((b_Slots.getD c_Slot.toNat ((0 : Int), ((0 : Int), ((List.replicate 32 (0 : Int)), (List.replicate 32 (0 : Int)))))).2.1, ((b_Slots.getD c_Slot.toNat ((0 : Int), ((0 : Int), ((List.replicate 32 (0 : Int)), (List.replicate 32 (0 : Int)))))).2.2.1, (((b_Slots.getD c_Slot.toNat ((0 : Int), ((0 : Int), ((List.replicate 32 (0 : Int)), (List.replicate 32 (0 : Int)))))).2.2.2).set c_End.toNat c_Arg)))))))), (.box 23 (.st (.cons (.int .i64 c_Kind) (.cons (.int .i64 c_Slot) (.cons (.int .i64 c_End) (.int .i64 c_Arg))))))]) ((True) ∧ (True)) (by kernel_rfl) (by kernel_rfl) ⟨trivial, trivial⟩ ?_
                                          refine KS.opsOf ?_
                                          have hq : (True) ∧ (True) := ⟨trivial, trivial⟩
                                          refine TOS.run 1 [] (by kernel_rfl) ?_ ?_
                                          · apply prop_of ?_ hq
                                            kernel_rfl
                                          refine TOS.nil (by kernel_rfl) ?_
                                          refine XS.blockEnd ?_
                                          refine XS.reAny [1, 2, 3, 4] (mkMask 95 [2, 3, 4, 7, 11]) ((1 : Int), (b_Slots.set c_Slot.toNat ((b_Slots.getD c_Slot.toNat ((0 : Int), ((0 : Int), ((List.replicate 32 (0 : Int)), (List.replicate 32 (0 : Int)))))).1, ((b_Slots.getD c_Slot.toNat ((0 : Int), ((0 : Int), ((List.replicate 32 (0 : Int)), (List.replicate 32 (0 : Int)))))).2.1, ((b_Slots.getD c_Slot.toNat ((0 : Int), ((0 : Int), ((List.replicate 32 (0 : Int)), (List.replicate 32 (0 : Int)))))).2.2.1, (((b_Slots.getD c_Slot.toNat ((0 : Int), ((0 : Int), ((List.replicate 32 (0 : Int)), (List.replicate 32 (0 : Int)))))).2.2.2).set c_End.toNat c_Arg)))))) h ?_
                                          kernel_rfl
                                        · refine TS.cond ((((b_Slots.getD c_Slot.toNat ((0 : Int), ((0 : Int), ((List.replicate 32 (0 : Int)), (List.replicate 32 (0 : Int)))))).2.2.1).getD c_End.toNat (0 : Int)) == (3 : Int)) ?_ (fun e => by rw [c98] at e; cases e) (fun e => ?_)
                                          · kernel_rfl
                                          refine TS.seq ?_
                                          rcases bif_some h with ⟨c99, h⟩ | ⟨c100, h⟩
                                          · have hq : (True) ∧ ((True) ∧ ((True) ∧ (((True) ∧ (c_Kind == (9 : Int)) = true) ∧ ((True) ∧ ((True) ∧ ((c_Slot.toNat < 9 ∧ (c_End.toNat < 32 ∧ (True))) ∧ ((True) ∧ (((True) ∧ ((((b_Slots.getD c_Slot.toNat ((0 : Int), ((0 : Int), ((List.replicate 32 (0 : Int)), (List.replicate 32 (0 : Int)))))).2.2.1).getD c_End.toNat (0 : Int)) == (3 : Int)) = false) ∧ ((True) ∧ ((True) ∧ ((c_Slot.toNat < 9 ∧ (c_End.toNat < 32 ∧ (True))) ∧ ((True) ∧ ((True) ∧ ((True) ∧ ((True) ∧ (True)))))))))))))))) := ⟨trivial, ⟨trivial, ⟨trivial, ⟨⟨trivial, c99⟩, ⟨trivial, ⟨trivial, ⟨⟨inR_lt (inb_ok t15), ⟨inR_lt (inb_ok t58), trivial⟩⟩, ⟨trivial, ⟨⟨trivial, c98⟩, ⟨trivial, ⟨trivial, ⟨⟨inR_lt (inb_ok t15), ⟨inR_lt (inb_ok t58), trivial⟩⟩, ⟨trivial, ⟨trivial, ⟨trivial, ⟨trivial, trivial⟩⟩⟩⟩⟩⟩⟩⟩⟩⟩⟩⟩⟩⟩⟩⟩
                                            refine TS.reg [.none, .none, .none, .dec true, .none, .none, .none, .none, .dec false] ?_ ?_
                                            · apply prop_of ?_ hq
                                              kernel_rfl
                                            refine XS.then ?_
                                            refine TS.cond ((((b_Slots.getD c_Slot.toNat ((0 : Int), ((0 : Int), ((List.replicate 32 (0 : Int)), (List.replicate 32 (0 : Int)))))).2.2.1).getD c_End.toNat (0 : Int)) == (1 : Int)) ?_ (fun e => by rw [c92] at e; cases e) (fun e => ?_)
                                            · kernel_rfl
                                            refine TS.seq ?_
                                            have hq : (True) ∧ (True) := ⟨trivial, trivial⟩
                                            refine TS.reg [] ?_ ?_
                                            · apply prop_of ?_ hq
                                              kernel_rfl
                                            refine XS.then ?_
                                            refine TS.ret ?_
                                            refine XS.blockRet ?_
                                            refine XS.passR ?_
                                            refine XS.backR 0 (mkTs 95 [(2, (.ptr 1 [])), (3, (.ptr 2 [])), (4, (.ptr 3 [])), (7, (.ptr 4 [])), (11, (.int .i64 (1 : Int)))]) (mkTs 95 [(2, (.ptr 1 [])), (3, (.ptr 2 [])), (4, (.ptr 3 [])), (7, (.ptr 4 [])), (11, (.int .i64 (1 : Int))), (59, (.int .i64 (19 : Int)))], [.dead, (.box 36 (.st (.arr 9 (.st (.pair (.int .i64) (.pair (.int .i64) (.pair (.arr 32 (.int .i64)) (.arr 32 (.int .i64)))))) b_Slots))), (.box 23 (.st (.cons (.int .i64 c_Kind) (.cons (.int .i64 c_Slot) (.cons (.int .i64 c_End) (.int .i64 c_Arg)))))), (.box 36 (.st (.arr 9 (.st (.pair (.int .i64) (.pair (.int .i64) (.pair (.arr 32 (.int .i64)) (.arr 32 (.int .i64)))))) (List.replicate 9 ((0 : Int), ((0 : Int), ((List.replicate 32 (0 : Int)), (List.replicate 32 (0 : Int))))))))), (.box 36 (.st (.arr 9 (.st (.pair (.int .i64) (.pair (.int .i64) (.pair (.arr 32 (.int .i64)) (.arr 32 (.int .i64)))))) b_Slots))), (.box 23 (.st (.cons (.int .i64 c_Kind) (.cons (.int .i64 c_Slot) (.cons (.int .i64 c_End) (.int .i64 c_Arg))))))]) ((True) ∧ (True)) (by kernel_rfl) (by kernel_rfl) ⟨trivial, trivial⟩ ?_
                                            refine KS.opsOf ?_
                                            have hq : (True) ∧ (True) := ⟨trivial, trivial⟩
                                            refine TOS.run 1 [] (by kernel_rfl) ?_ ?_
                                            · apply prop_of ?_ hq
                                              kernel_rfl
                                            refine TOS.nil (by kernel_rfl) ?_
                                            refine XS.blockEnd ?_
                                            refine XS.reAny [1, 2, 3, 4] (mkMask 95 [2, 3, 4, 7, 11]) ((19 : Int), b_Slots) h ?_
                                            kernel_rfl
                                          · have hq : (True) ∧ ((True) ∧ ((True) ∧ (((True) ∧ (c_Kind == (9 : Int)) = false) ∧ ((True) ∧ ((True) ∧ (True)))))) := ⟨trivial, ⟨trivial, ⟨trivial, ⟨⟨trivial, c100⟩, ⟨trivial, ⟨trivial, trivial⟩⟩⟩⟩⟩⟩
                                            refine TS.reg [.none, .none, .none, .dec false] ?_ ?_
                                            · apply prop_of ?_ hq
                                              kernel_rfl
                                            refine XS.then ?_
                                            refine TS.no ?_ ?_
                                            · kernel_rfl
                                            refine TS.seq ?_
                                            have hq : (True) ∧ (True) := ⟨trivial, trivial⟩
                                            refine TS.reg [] ?_ ?_
                                            · apply prop_of ?_ hq
                                              kernel_rfl
                                            refine XS.then ?_
                                            refine TS.ret ?_
                                            refine XS.blockRet ?_
                                            refine XS.passR ?_
                                            refine XS.backR 0 (mkTs 95 [(2, (.ptr 1 [])), (3, (.ptr 2 [])), (4, (.ptr 3 [])), (7, (.ptr 4 [])), (11, (.int .i64 (1 : Int)))]) (mkTs 95 [(2, (.ptr 1 [])), (3, (.ptr 2 [])), (4, (.ptr 3 [])), (7, (.ptr 4 [])), (11, (.int .i64 (1 : Int))), (59, (.int .i64 (19 : Int)))], [.dead, (.box 36 (.st (.arr 9 (.st (.pair (.int .i64) (.pair (.int .i64) (.pair (.arr 32 (.int .i64)) (.arr 32 (.int .i64)))))) b_Slots))), (.box 23 (.st (.cons (.int .i64 c_Kind) (.cons (.int .i64 c_Slot) (.cons (.int .i64 c_End) (.int .i64 c_Arg)))))), (.box 36 (.st (.arr 9 (.st (.pair (.int .i64) (.pair (.int .i64) (.pair (.arr 32 (.int .i64)) (.arr 32 (.int .i64)))))) (List.replicate 9 ((0 : Int), ((0 : Int), ((List.replicate 32 (0 : Int)), (List.replicate 32 (0 : Int))))))))), (.box 36 (.st (.arr 9 (.st (.pair (.int .i64) (.pair (.int .i64) (.pair (.arr 32 (.int .i64)) (.arr 32 (.int .i64)))))) b_Slots))), (.box 23 (.st (.cons (.int .i64 c_Kind) (.cons (.int .i64 c_Slot) (.cons (.int .i64 c_End) (.int .i64 c_Arg))))))]) ((True) ∧ (True)) (by kernel_rfl) (by kernel_rfl) ⟨trivial, trivial⟩ ?_
                                            refine KS.opsOf ?_
                                            have hq : (True) ∧ (True) := ⟨trivial, trivial⟩
                                            refine TOS.run 1 [] (by kernel_rfl) ?_ ?_
                                            · apply prop_of ?_ hq
                                              kernel_rfl
                                            refine TOS.nil (by kernel_rfl) ?_
                                            refine XS.blockEnd ?_
                                            refine XS.reAny [1, 2, 3, 4] (mkMask 95 [2, 3, 4, 7, 11]) ((19 : Int), b_Slots) h ?_
                                            kernel_rfl
                                      · have hq : (True) ∧ ((True) ∧ ((True) ∧ (((True) ∧ (c_Kind == (8 : Int)) = false) ∧ ((True) ∧ ((True) ∧ (True)))))) := ⟨trivial, ⟨trivial, ⟨trivial, ⟨⟨trivial, c96⟩, ⟨trivial, ⟨trivial, trivial⟩⟩⟩⟩⟩⟩
                                        refine TS.reg [.none, .none, .none, .dec false] ?_ ?_
                                        · apply prop_of ?_ hq
                                          kernel_rfl
                                        refine XS.then ?_
                                        refine TS.no ?_ ?_
                                        · kernel_rfl
                                        refine TS.seq ?_
                                        rcases bif_some h with ⟨c101, h⟩ | ⟨c102, h⟩
                                        · rcases bif_some h with ⟨c103, h⟩ | ⟨c104, h⟩
                                          · have hq : (True) ∧ ((True) ∧ ((True) ∧ (((True) ∧ (c_Kind == (9 : Int)) = true) ∧ ((True) ∧ ((True) ∧ ((c_Slot.toNat < 9 ∧ (c_End.toNat < 32 ∧ (True))) ∧ ((True) ∧ (((True) ∧ ((((b_Slots.getD c_Slot.toNat ((0 : Int), ((0 : Int), ((List.replicate 32 (0 : Int)), (List.replicate 32 (0 : Int)))))).2.2.1).getD c_End.toNat (0 : Int)) == (3 : Int)) = true) ∧ ((True) ∧ ((True) ∧ ((True) ∧ (True)))))))))))) := ⟨trivial, ⟨trivial, ⟨trivial, ⟨⟨trivial, c101⟩, ⟨trivial, ⟨trivial, ⟨⟨inR_lt (inb_ok t15), ⟨inR_lt (inb_ok t58), trivial⟩⟩, ⟨trivial, ⟨⟨trivial, c103⟩, ⟨trivial, ⟨trivial, ⟨trivial, trivial⟩⟩⟩⟩⟩⟩⟩⟩⟩⟩⟩⟩
                                            refine TS.reg [.none, .none, .none, .dec true, .none, .none, .none, .none, .dec true] ?_ ?_
                                            · apply prop_of ?_ hq
                                              kernel_rfl
                                            refine XS.then ?_
                                            refine TS.yes ?_ ?_
                                            · kernel_rfl
                                            have hq : (True) ∧ ((True) ∧ ((c_Slot.toNat < 9 ∧ (c_End.toNat < 32 ∧ (True))) ∧ (True))) := ⟨trivial, ⟨trivial, ⟨⟨inR_lt (inb_ok t15), ⟨inR_lt (inb_ok t58), trivial⟩⟩, trivial⟩⟩⟩
                                            refine TS.reg [] ?_ ?_
                                            · apply prop_of ?_ hq
                                              kernel_rfl
                                            refine XS.blockEnd ?_
                                            refine XS.then ?_
                                            refine TS.seq ?_
                                            have hq : (True) ∧ (True) := ⟨trivial, trivial⟩
                                            refine TS.reg [] ?_ ?_
                                            · apply prop_of ?_ hq
                                              kernel_rfl
                                            refine XS.then ?_
                                            refine TS.ret ?_
                                            refine XS.backR 0 (mkTs 95 [(2, (.ptr 1 [])), (3, (.ptr 2 [])), (4, (.ptr 3 [])), (7, (.ptr 4 [])), (11, (.int .i64 (1 : Int)))]) (mkTs 95 [(2, (.ptr 1 [])), (3, (.ptr 2 [])), (4, (.ptr 3 [])), (7, (.ptr 4 [])), (11, (.int .i64 (1 : Int))), (59, (.int .i64 (1 : Int)))], [.dead, (.box 36 (.st (.arr 9 (.st (.pair (.int .i64) (.pair (.int .i64) (.pair (.arr 32 (.int .i64)) (.arr 32 (.int .i64)))))) b_Slots))), (.box 23 (.st (.cons (.int .i64 c_Kind) (.cons (.int .i64 c_Slot) (.cons (.int .i64 c_End) (.int .i64 c_Arg)))))), (.box 36 (.st (.arr 9 (.st (.pair (.int .i64) (.pair (.int .i64) (.pair (.arr 32 (.int .i64)) (.arr 32 (.int .i64)))))) (List.replicate 9 ((0 : Int), ((0 : Int), ((List.replicate 32 (0 : Int)), (List.replicate 32 (0 : Int))))))))), (.box 36 (.st (.arr 9 (.st (.pair (.int .i64) (.pair (.int .i64) (.pair (.arr 32 (.int .i64)) (.arr 32 (.int .i64)))))) (b_Slots.set c_Slot.toNat ((b_Slots.getD c_Slot.toNat ((0 : Int), ((0 : Int), ((List.replicate 32 (0 : Int)), (List.replicate 32 (0 : Int)))))).1, ((b_Slots.getD c_Slot.toNat ((0 : Int), ((0 : Int), ((List.replicate 32 (0 : Int)), (List.replicate 32 (0 : Int)))))).2.1, ((((b_Slots.getD c_Slot.toNat ((0 : Int), ((0 : Int), ((List.replicate 32 (0 : Int)), (List.replicate 32 (0 : Int)))))).2.2.1).set c_End.toNat (1 : Int)), (b_Slots.getD c_Slot.toNat ((0 : Int), ((0 : Int), ((List.replicate 32 (0 : Int)), (List.replicate 32 (0 : Int)))))).2.2.2))))))), (.box 23 (.st (.cons (.int .i64 c_Kind) (.cons (.int .i64 c_Slot) (.cons (.int .i64 c_End) (.int .i64 c_Arg))))))]) ((True) ∧ (True)) (by kernel_rfl) (by kernel_rfl) ⟨trivial, trivial⟩ ?_
                                            refine KS.opsOf ?_
                                            have hq : (True) ∧ (True) := ⟨trivial, trivial⟩
                                            refine TOS.run 1 [] (by kernel_rfl) ?_ ?_
                                            · apply prop_of ?_ hq
                                              kernel_rfl
                                            refine TOS.nil (by kernel_rfl) ?_
                                            refine XS.blockEnd ?_
                                            refine XS.reAny [1, 2, 3, 4] (mkMask 95 [2, 3, 4, 7, 11]) ((1 : Int), (b_Slots.set c_Slot.toNat ((b_Slots.getD c_Slot.toNat ((0 : Int), ((0 : Int), ((List.replicate 32 (0 : Int)), (List.replicate 32 (0 : Int)))))).1, ((b_Slots.getD c_Slot.toNat ((0 : Int), ((0 : Int), ((List.replicate 32 (0 : Int)), (List.replicate 32 (0 : Int)))))).2.1, ((((b_Slots.getD c_Slot.toNat ((0 : Int), ((0 : Int), ((List.replicate 32 (0 : Int)), (List.replicate 32 (0 : Int)))))).2.2.1).set c_End.toNat (1 : Int)), (b_Slots.getD c_Slot.toNat ((0 : Int), ((0 : Int), ((List.replicate 32 (0 : Int)), (List.replicate 32 (0 : Int)))))).2.2.2))))) h ?_
                                            kernel_rfl
                                          · have hq : (True) ∧ ((True) ∧ ((True) ∧ (((True) ∧ (c_Kind == (9 : Int)) = true) ∧ ((True) ∧ ((True) ∧ ((c_Slot.toNat < 9 ∧ (c_End.toNat < 32 ∧ (True))) ∧ ((True) ∧ (((True) ∧ ((((b_Slots.getD c_Slot.toNat ((0 : Int), ((0 : Int), ((List.replicate 32 (0 : Int)), (List.replicate 32 (0 : Int)))))).2.2.1).getD c_End.toNat (0 : Int)) == (3 : Int)) = false) ∧ ((True) ∧ ((True) ∧ ((c_Slot.toNat < 9 ∧ (c_End.toNat < 32 ∧ (True))) ∧ ((True) ∧ ((True) ∧ ((True) ∧ ((True) ∧ (True)))))))))))))))) := ⟨trivial, ⟨trivial, ⟨trivial, ⟨⟨trivial, c101⟩, ⟨trivial, ⟨trivial, ⟨⟨inR_lt (inb_ok t15), ⟨inR_lt (inb_ok t58), trivial⟩⟩, ⟨trivial, ⟨⟨trivial, c104⟩, ⟨trivial, ⟨trivial, ⟨⟨inR_lt (inb_ok t15), ⟨inR_lt (inb_ok t58), trivial⟩⟩, ⟨trivial, ⟨trivial, ⟨trivial, ⟨trivial, trivial⟩⟩⟩⟩⟩⟩⟩⟩⟩⟩⟩⟩⟩⟩⟩⟩
                                            refine TS.reg [.none, .none, .none, .dec true, .none, .none, .none, .none, .dec false] ?_ ?_
                                            · apply prop_of ?_ hq
                                              kernel_rfl
                                            refine XS.then ?_
                                            refine TS.cond ((((b_Slots.getD c_Slot.toNat ((0 : Int), ((0 : Int), ((List.replicate 32 (0 : Int)), (List.replicate 32 (0 : Int)))))).2.2.1).getD c_End.toNat (0 : Int)) == (1 : Int)) ?_ (fun e => by rw [c92] at e; cases e) (fun e => ?_)
                                            · kernel_rfl
                                            refine TS.seq ?_
                                            have hq : (True) ∧ (True) := ⟨trivial, trivial⟩
                                            refine TS.reg [] ?_ ?_
                                            · apply prop_of ?_ hq
                                              kernel_rfl
                                            refine XS.then ?_
                                            refine TS.ret ?_
                                            refine XS.blockRet ?_
                                            refine XS.passR ?_
                                            refine XS.backR 0 (mkTs 95 [(2, (.ptr 1 [])), (3, (.ptr 2 [])), (4, (.ptr 3 [])), (7, (.ptr 4 [])), (11, (.int .i64 (1 : Int)))]) (mkTs 95 [(2, (.ptr 1 [])), (3, (.ptr 2 [])), (4, (.ptr 3 [])), (7, (.ptr 4 [])), (11, (.int .i64 (1 : Int))), (59, (.int .i64 (19 : Int)))], [.dead, (.box 36 (.st (.arr 9 (.st (.pair (.int .i64) (.pair (.int .i64) (.pair (.arr 32 (.int .i64)) (.arr 32 (.int .i64)))))) b_Slots))), (.box 23 (.st (.cons (.int .i64 c_Kind) (.cons (.int .i64 c_Slot) (.cons (.int .i64 c_End) (.int .i64 c_Arg)))))), (.box 36 (.st (.arr 9 (.st (.pair (.int .i64) (.pair (.int .i64) (.pair (.arr 32 (.int .i64)) (.arr 32 (.int .i64)))))) (List.replicate 9 ((0 : Int), ((0 : Int), ((List.replicate 32 (0 : Int)), (List.replicate 32 (0 : Int))))))))), (.box 36 (.st (.arr 9 (.st (.pair (.int .i64) (.pair (.int .i64) (.pair (.arr 32 (.int .i64)) (.arr 32 (.int .i64)))))) b_Slots))), (.box 23 (.st (.cons (.int .i64 c_Kind) (.cons (.int .i64 c_Slot) (.cons (.int .i64 c_End) (.int .i64 c_Arg))))))]) ((True) ∧ (True)) (by kernel_rfl) (by kernel_rfl) ⟨trivial, trivial⟩ ?_
                                            refine KS.opsOf ?_
                                            have hq : (True) ∧ (True) := ⟨trivial, trivial⟩
                                            refine TOS.run 1 [] (by kernel_rfl) ?_ ?_
                                            · apply prop_of ?_ hq
                                              kernel_rfl
                                            refine TOS.nil (by kernel_rfl) ?_
                                            refine XS.blockEnd ?_
                                            refine XS.reAny [1, 2, 3, 4] (mkMask 95 [2, 3, 4, 7, 11]) ((19 : Int), b_Slots) h ?_
                                            kernel_rfl
                                        · have hq : (True) ∧ ((True) ∧ ((True) ∧ (((True) ∧ (c_Kind == (9 : Int)) = false) ∧ ((True) ∧ ((True) ∧ (True)))))) := ⟨trivial, ⟨trivial, ⟨trivial, ⟨⟨trivial, c102⟩, ⟨trivial, ⟨trivial, trivial⟩⟩⟩⟩⟩⟩
                                          refine TS.reg [.none, .none, .none, .dec false] ?_ ?_
                                          · apply prop_of ?_ hq
                                            kernel_rfl
                                          refine XS.then ?_
                                          refine TS.no ?_ ?_
                                          · kernel_rfl
                                          refine TS.seq ?_
                                          have hq : (True) ∧ (True) := ⟨trivial, trivial⟩
                                          refine TS.reg [] ?_ ?_
                                          · apply prop_of ?_ hq
                                            kernel_rfl
                                          refine XS.then ?_
                                          refine TS.ret ?_
                                          refine XS.blockRet ?_
                                          refine XS.passR ?_
                                          refine XS.backR 0 (mkTs 95 [(2, (.ptr 1 [])), (3, (.ptr 2 [])), (4, (.ptr 3 [])), (7, (.ptr 4 [])), (11, (.int .i64 (1 : Int)))]) (mkTs 95 [(2, (.ptr 1 [])), (3, (.ptr 2 [])), (4, (.ptr 3 [])), (7, (.ptr 4 [])), (11, (.int .i64 (1 : Int))), (59, (.int .i64 (19 : Int)))], [.dead, (.box 36 (.st (.arr 9 (.st (.pair (.int .i64) (.pair (.int .i64) (.pair (.arr 32 (.int .i64)) (.arr 32 (.int .i64)))))) b_Slots))), (.box 23 (.st (.cons (.int .i64 c_Kind) (.cons (.int .i64 c_Slot) (.cons (.int .i64 c_End) (.int .i64 c_Arg)))))), (.box 36 (.st (.arr 9 (.st (.pair (.int .i64) (.pair (.int .i64) (.pair (.arr 32 (.int .i64)) (.arr 32 (.int .i64)))))) (List.replicate 9 ((0 : Int), ((0 : Int), ((List.replicate 32 (0 : Int)), (List.replicate 32 (0 : Int))))))))), (.box 36 (.st (.arr 9 (.st (.pair (.int .i64) (.pair (.int .i64) (.pair (.arr 32 (.int .i64)) (.arr 32 (.int .i64)))))) b_Slots))), (.box 23 (.st (.cons (.int .i64 c_Kind) (.cons (.int .i64 c_Slot) (.cons (.int .i64 c_End) (.int .i64 c_Arg))))))]) ((True) ∧ (True)) (by kernel_rfl) (by kernel_rfl) ⟨trivial, trivial⟩ ?_
                                          refine KS.opsOf ?_
                                          have hq : (True) ∧ (True) := ⟨trivial, trivial⟩
                                          refine TOS.run 1 [] (by kernel_rfl) ?_ ?_
                                          · apply prop_of ?_ hq
                                            kernel_rfl
                                          refine TOS.nil (by kernel_rfl) ?_
                                          refine XS.blockEnd ?_
                                          refine XS.reAny [1, 2, 3, 4] (mkMask 95 [2, 3, 4, 7, 11]) ((19 : Int), b_Slots) h ?_
                                          kernel_rfl
                                  · rcases bif_some h with ⟨c105, h⟩ | ⟨c106, h⟩
                                    · rcases bif_some h with ⟨c107, h⟩ | ⟨c108, h⟩
                                      · have hq : (True) ∧ ((True) ∧ ((True) ∧ (((True) ∧ (c_Kind == (8 : Int)) = true) ∧ ((True) ∧ ((True) ∧ ((True) ∧ (((True) ∧ (decide (c_Arg < (0 : Int))) = true) ∧ ((True) ∧ ((True) ∧ ((True) ∧ (True))))))))))) := ⟨trivial, ⟨trivial, ⟨trivial, ⟨⟨trivial, c105⟩, ⟨trivial, ⟨trivial, ⟨trivial, ⟨⟨trivial, c107⟩, ⟨trivial, ⟨trivial, ⟨trivial, trivial⟩⟩⟩⟩⟩⟩⟩⟩⟩⟩⟩
                                        refine TS.reg [.none, .none, .none, .dec true, .none, .none, .none, .dec true] ?_ ?_
                                        · apply prop_of ?_ hq
                                          kernel_rfl
                                        refine XS.reAny [4, 0, 1, 2, 3, 5] (mkMask 101 [0, 3, 5, 51]) true h ?_
                                        kernel_rfl
                                      · have hq : (True) ∧ ((True) ∧ ((True) ∧ (((True) ∧ (c_Kind == (8 : Int)) = true) ∧ ((True) ∧ ((True) ∧ ((True) ∧ (((True) ∧ (decide (c_Arg < (0 : Int))) = false) ∧ ((True) ∧ ((True) ∧ ((True) ∧ ((True) ∧ ((True) ∧ ((True) ∧ (True)))))))))))))) := ⟨trivial, ⟨trivial, ⟨trivial, ⟨⟨trivial, c105⟩, ⟨trivial, ⟨trivial, ⟨trivial, ⟨⟨trivial, c108⟩, ⟨trivial, ⟨trivial, ⟨trivial, ⟨trivial, ⟨trivial, ⟨trivial, trivial⟩⟩⟩⟩⟩⟩⟩⟩⟩⟩⟩⟩⟩⟩
                                        refine TS.reg [.none, .none, .none, .dec true, .none, .none, .none, .dec false] ?_ ?_
                                        · apply prop_of ?_ hq
                                          kernel_rfl
                                        refine XS.reAny [4, 0, 1, 2, 3, 5] (mkMask 101 [0, 3, 5, 51]) (decide (c_Arg > (65535 : Int))) h ?_
                                        kernel_rfl
                                    · have hq : (True) ∧ ((True) ∧ ((True) ∧ (((True) ∧ (c_Kind == (8 : Int)) = false) ∧ ((True) ∧ ((True) ∧ (True)))))) := ⟨trivial, ⟨trivial, ⟨trivial, ⟨⟨trivial, c106⟩, ⟨trivial, ⟨trivial, trivial⟩⟩⟩⟩⟩⟩
                                      refine TS.reg [.none, .none, .none, .dec false] ?_ ?_
                                      · apply prop_of ?_ hq
                                        kernel_rfl
                                      refine XS.reAny [4, 0, 1, 2, 3, 5] (mkMask 101 [0, 3, 5, 51]) false h ?_
                                      kernel_rfl
                              · have hq : (True) ∧ ((True) ∧ ((True) ∧ (((True) ∧ (c_Kind == (7 : Int)) = false) ∧ ((True) ∧ ((True) ∧ (True)))))) := ⟨trivial, ⟨trivial, ⟨trivial, ⟨⟨trivial, c90⟩, ⟨trivial, ⟨trivial, trivial⟩⟩⟩⟩⟩⟩
                                refine TS.reg [.none, .none, .none, .dec false] ?_ ?_
                                · apply prop_of ?_ hq
                                  kernel_rfl
                                refine XS.then ?_
                                refine TS.no ?_ ?_
                                · kernel_rfl
                                refine TS.seq ?_
                                refine TS.cut (D := Bool) (fun d => match d with | x_14 => (mkTs 101 [(0, (.ptr 4 [.fld 0 0, .idx c_Slot.toNat 66])), (3, (.ptr 5 [])), (5, (.ptr 4 [.fld 0 0, .idx c_Slot.toNat 66, .fld 2 2, .idx c_End.toNat 1])), (51, (.bool x_14))], [(.sav (mkTs 95 [(2, (.ptr 1 [])), (3, (.ptr 2 [])), (4, (.ptr 3 [])), (7, (.ptr 4 [])), (11, (.int .i64 (1 : Int)))]) fv14), (.box 36 (.st (.arr 9 (.st (.pair (.int .i64) (.pair (.int .i64) (.pair (.arr 32 (.int .i64)) (.arr 32 (.int .i64)))))) b_Slots))), (.box 23 (.st (.cons (.int .i64 c_Kind) (.cons (.int .i64 c_Slot) (.cons (.int .i64 c_End) (.int .i64 c_Arg)))))), (.box 36 (.st (.arr 9 (.st (.pair (.int .i64) (.pair (.int .i64) (.pair (.arr 32 (.int .i64)) (.arr 32 (.int .i64)))))) (List.replicate 9 ((0 : Int), ((0 : Int), ((List.replicate 32 (0 : Int)), (List.replicate 32 (0 : Int))))))))), (.box 36 (.st (.arr 9 (.st (.pair (.int .i64) (.pair (.int .i64) (.pair (.arr 32 (.int .i64)) (.arr 32 (.int .i64)))))) b_Slots))), (.box 23 (.st (.cons (.int .i64 c_Kind) (.cons (.int .i64 c_Slot) (.cons (.int .i64 c_End) (.int .i64 c_Arg))))))])) (fun d => F21_j92 n b_Slots c_Kind c_Slot c_End c_Arg d = some r) ?_ ?_
                                · rintro x_14 h
                                  replace h : (bif x_14 then (F21_j71 n b_Slots c_Slot ((17 : Int), b_Slots)) else (bif (c_Kind == (8 : Int)) then (bif ((((b_Slots.getD c_Slot.toNat ((0 : Int), ((0 : Int), ((List.replicate 32 (0 : Int)), (List.replicate 32 (0 : Int)))))).2.2.1).getD c_End.toNat (0 : Int)) == (3 : Int)) then (F21_j71 n b_Slots c_Slot ((1 : Int), (b_Slots.set c_Slot.toNat ((b_Slots.getD c_Slot.toNat ((0 : Int), ((0 : Int), ((List.replicate 32 (0 : Int)), (List.replicate 32 (0 : Int)))))).1, ((b_Slots.getD c_Slot.toNat ((0 : Int), ((0 : Int), ((List.replicate 32 (0 : Int)), (List.replicate 32 (0 : Int)))))).2.1, ((b_Slots.getD c_Slot.toNat ((0 : Int), ((0 : Int), ((List.replicate 32 (0 : Int)), (List.replicate 32 (0 : Int)))))).2.2.1, (((b_Slots.getD c_Slot.toNat ((0 : Int), ((0 : Int), ((List.replicate 32 (0 : Int)), (List.replicate 32 (0 : Int)))))).2.2.2).set c_End.toNat c_Arg))))))) else (bif (c_Kind == (9 : Int)) then (bif ((((b_Slots.getD c_Slot.toNat ((0 : Int), ((0 : Int), ((List.replicate 32 (0 : Int)), (List.replicate 32 (0 : Int)))))).2.2.1).getD c_End.toNat (0 : Int)) == (1 : Int)) then (F21_j71 n b_Slots c_Slot ((1 : Int), (b_Slots.set c_Slot.toNat ((b_Slots.getD c_Slot.toNat ((0 : Int), ((0 : Int), ((List.replicate 32 (0 : Int)), (List.replicate 32 (0 : Int)))))).1, ((b_Slots.getD c_Slot.toNat ((0 : Int), ((0 : Int), ((List.replicate 32 (0 : Int)), (List.replicate 32 (0 : Int)))))).2.1, ((((b_Slots.getD c_Slot.toNat ((0 : Int), ((0 : Int), ((List.replicate 32 (0 : Int)), (List.replicate 32 (0 : Int)))))).2.2.1).set c_End.toNat (1 : Int)), (b_Slots.getD c_Slot.toNat ((0 : Int), ((0 : Int), ((List.replicate 32 (0 : Int)), (List.replicate 32 (0 : Int)))))).2.2.2)))))) else (F21_j71 n b_Slots c_Slot ((19 : Int), b_Slots))) else (F21_j71 n b_Slots c_Slot ((19 : Int), b_Slots)))) else (bif (c_Kind == (9 : Int)) then (bif ((((b_Slots.getD c_Slot.toNat ((0 : Int), ((0 : Int), ((List.replicate 32 (0 : Int)), (List.replicate 32 (0 : Int)))))).2.2.1).getD c_End.toNat (0 : Int)) == (3 : Int)) then (F21_j71 n b_Slots c_Slot ((1 : Int), (b_Slots.set c_Slot.toNat ((b_Slots.getD c_Slot.toNat ((0 : Int), ((0 : Int), ((List.replicate 32 (0 : Int)), (List.replicate 32 (0 : Int)))))).1, ((b_Slots.getD c_Slot.toNat ((0 : Int), ((0 : Int), ((List.replicate 32 (0 : Int)), (List.replicate 32 (0 : Int)))))).2.1, ((((b_Slots.getD c_Slot.toNat ((0 : Int), ((0 : Int), ((List.replicate 32 (0 : Int)), (List.replicate 32 (0 : Int)))))).2.2.1).set c_End.toNat (1 : Int)), (b_Slots.getD c_Slot.toNat ((0 : Int), ((0 : Int), ((List.replicate 32 (0 : Int)), (List.replicate 32 (0 : Int)))))).2.2.2)))))) else (bif ((((b_Slots.getD c_Slot.toNat ((0 : Int), ((0 : Int), ((List.replicate 32 (0 : Int)), (List.replicate 32 (0 : Int)))))).2.2.1).getD c_End.toNat (0 : Int)) == (1 : Int)) then (F21_j71 n b_Slots c_Slot ((1 : Int), (b_Slots.set c_Slot.toNat ((b_Slots.getD c_Slot.toNat ((0 : Int), ((0 : Int), ((List.replicate 32 (0 : Int)), (List.replicate 32 (0 : Int)))))).1, ((b_Slots.getD c_Slot.toNat ((0 : Int), ((0 : Int), ((List.replicate 32 (0 : Int)), (List.replicate 32 (0 : Int)))))).2.1, ((((b_Slots.getD c_Slot.toNat ((0 : Int), ((0 : Int), ((List.replicate 32 (0 : Int)), (List.replicate 32 (0 : Int)))))).2.2.1).set c_End.toNat (1 : Int)), (b_Slots.getD c_Slot.toNat ((0 : Int), ((0 : Int), ((List.replicate 32 (0 : Int)), (List.replicate 32 (0 : Int)))))).2.2.2)))))) else (F21_j71 n b_Slots c_Slot ((19 : Int), b_Slots)))) else (F21_j71 n b_Slots c_Slot ((19 : Int), b_Slots))))) = some r := h
                                  refine XS.then ?_
                                  rcases bif_some h with ⟨c109, h⟩ | ⟨c110, h⟩
                                  · refine TS.cond x_14 ?_ (fun e => ?_) (fun e => by rw [c109] at e; cases e)
                                    · kernel_rfl
                                    refine TS.seq ?_
                                    have hq : (True) ∧ (True) := ⟨trivial, trivial⟩
                                    refine TS.reg [] ?_ ?_
                                    · apply prop_of ?_ hq
                                      kernel_rfl
                                    refine XS.then ?_
                                    refine TS.ret ?_
                                    refine XS.blockRet ?_
                                    refine XS.passR ?_
                                    refine XS.backR 0 (mkTs 95 [(2, (.ptr 1 [])), (3, (.ptr 2 [])), (4, (.ptr 3 [])), (7, (.ptr 4 [])), (11, (.int .i64 (1 : Int)))]) (mkTs 95 [(2, (.ptr 1 [])), (3, (.ptr 2 [])), (4, (.ptr 3 [])), (7, (.ptr 4 [])), (11, (.int .i64 (1 : Int))), (59, (.int .i64 (17 : Int)))], [.dead, (.box 36 (.st (.arr 9 (.st (.pair (.int .i64) (.pair (.int .i64) (.pair (.arr 32 (.int .i64)) (.arr 32 (.int .i64)))))) b_Slots))), (.box 23 (.st (.cons (.int .i64 c_Kind) (.cons (.int .i64 c_Slot) (.cons (.int .i64 c_End) (.int .i64 c_Arg)))))), (.box 36 (.st (.arr 9 (.st (.pair (.int .i64) (.pair (.int .i64) (.pair (.arr 32 (.int .i64)) (.arr 32 (.int .i64)))))) (List.replicate 9 ((0 : Int), ((0 : Int), ((List.replicate 32 (0 : Int)), (List.replicate 32 (0 : Int))))))))), (.box 36 (.st (.arr 9 (.st (.pair (.int .i64) (.pair (.int .i64) (.pair (.arr 32 (.int .i64)) (.arr 32 (.int .i64)))))) b_Slots))), (.box 23 (.st (.cons (.int .i64 c_Kind) (.cons (.int .i64 c_Slot) (.cons (.int .i64 c_End) (.int .i64 c_Arg))))))]) ((True) ∧ (True)) (by kernel_rfl) (by kernel_rfl) ⟨trivial, trivial⟩ ?_
                                    refine KS.opsOf ?_
                                    have hq : (True) ∧ (True) := ⟨trivial, trivial⟩
                                    refine TOS.run 1 [] (by kernel_rfl) ?_ ?_
                                    · apply prop_of ?_ hq
                                      kernel_rfl
                                    refine TOS.nil (by kernel_rfl) ?_
                                    refine XS.blockEnd ?_
                                    refine XS.reAny [1, 2, 3, 4] (mkMask 95 [2, 3, 4, 7, 11]) ((17 : Int), b_Slots) h ?_
                                    kernel_rfl
                                  · refine TS.cond x_14 ?_ (fun e => by rw [c110] at e; cases e) (fun e => ?_)
                                    · kernel_rfl
                                    refine TS.seq ?_
                                    rcases bif_some h with ⟨c111, h⟩ | ⟨c112, h⟩
                                    · have hq : (True) ∧ ((True) ∧ ((True) ∧ (((True) ∧ (c_Kind == (8 : Int)) = true) ∧ ((True) ∧ ((True) ∧ ((c_Slot.toNat < 9 ∧ (c_End.toNat < 32 ∧ (True))) ∧ ((True) ∧ ((True) ∧ ((True) ∧ (True)))))))))) := ⟨trivial, ⟨trivial, ⟨trivial, ⟨⟨trivial, c111⟩, ⟨trivial, ⟨trivial, ⟨⟨inR_lt (inb_ok t15), ⟨inR_lt (inb_ok t58), trivial⟩⟩, ⟨trivial, ⟨trivial, ⟨trivial, trivial⟩⟩⟩⟩⟩⟩⟩⟩⟩⟩
                                      refine TS.reg [.none, .none, .none, .dec true] ?_ ?_
                                      · apply prop_of ?_ hq
                                        kernel_rfl
                                      refine XS.then ?_
                                      rcases bif_some h with ⟨c113, h⟩ | ⟨c114, h⟩
                                      · refine TS.cond ((((b_Slots.getD c_Slot.toNat ((0 : Int), ((0 : Int), ((List.replicate 32 (0 : Int)), (List.replicate 32 (0 : Int)))))).2.2.1).getD c_End.toNat (0 : Int)) == (3 : Int)) ?_ (fun e => ?_) (fun e => by rw [c113] at e; cases e)
                                        · kernel_rfl
                                        have hq : ((True) ∧ ((True) ∧ ((True) ∧ ((True) ∧ ((True) ∧ ((True) ∧ ((True) ∧ ((inR c_End 32) ∧ (True))))))))) ∧ ((c_Slot.toNat < 9 ∧ (c_End.toNat < 32 ∧ (True))) ∧ (True)) := ⟨⟨trivial, ⟨trivial, ⟨trivial, ⟨trivial, ⟨trivial, ⟨trivial, ⟨trivial, ⟨inb_ok t58, trivial⟩⟩⟩⟩⟩⟩⟩⟩, ⟨⟨inR_lt (inb_ok t15), ⟨inR_lt (inb_ok t58), trivial⟩⟩, trivial⟩⟩
                                        refine TS.draw 8 [] [] (by kernel_rfl) ?_ ?_
                                        · apply prop_of ?_ hq
                                          kernel_rfl
                                        refine XS.blockEnd ?_
                                        refine XS.then ?_
                                        refine TS.seq ?_
                                        have hq : (True) ∧ (True) := ⟨trivial, trivial⟩
                                        refine TS.reg [] ?_ ?_
                                        · apply prop_of ?_ hq
                                          kernel_rfl
                                        refine XS.then ?_
                                        refine TS.ret ?_
                                        refine XS.backR 0 (mkTs 95 [(2, (.ptr 1 [])), (3, (.ptr 2 [])), (4, (.ptr 3 [])), (7, (.ptr 4 [])), (11, (.int .i64 (1 : Int)))]) (mkTs 95 [(2, (.ptr 1 [])), (3, (.ptr 2 [])), (4, (.ptr 3 [])), (7, (.ptr 4 [])), (11, (.int .i64 (1 : Int))), (59, (.int .i64 (1 : Int)))], [.dead, (.box 36 (.st (.arr 9 (.st (.pair (.int .i64) (.pair (.int .i64) (.pair (.arr 32 (.int .i64)) (.arr 32 (.int .i64)))))) b_Slots))), (.box 23 (.st (.cons (.int .i64 c_Kind) (.cons (.int .i64 c_Slot) (.cons (.int .i64 c_End) (.int .i64 c_Arg)))))), (.box 36 (.st (.arr 9 (.st (.pair (.int .i64) (.pair (.int .i64) (.pair (.arr 32 (.int .i64)) (.arr 32 (.int .i64)))))) (List.replicate 9 ((0 : Int), ((0 : Int), ((List.replicate 32 (0 : Int)), (List.replicate 32 (0 : Int))))))))), (.box 36 (.st (.arr 9 (.st (.pair (.int .i64) (.pair (.int .i64) (.pair (.arr 32 (.int .i64)) (.arr 32 (.int .i64)))))) (b_Slots.set c_Slot.toNat ((b_Slots.getD c_Slot.toNat ((0 : Int), ((0 : Int), ((List.replicate 32 (0 : Int)), (List.replicate 32 (0 : Int)))))).1, ((b_Slots.getD c_Slot.toNat ((0 : Int), ((0 : Int), ((List.replicate 32 (0 : Int)), (List.replicate 32 (0 : Int)))))).2.1, ((b_Slots.getD c_Slot.toNat ((0 : Int), ((0 : Int), ((List.replicate 32 (0 : Int)), (List.replicate 32 (0 : Int)))))).2.2.1, (((b_Slots.getD c_Slot.toNat ((0 : Int), ((0 : Int), ((List.replicate 32 (0 : Int)), (List.replicate 32 (0 : Int)))))).2.2.2).set c_End.toNat c_Arg)))))))), (.box 23 (.st (.cons (.int .i64 c_Kind) (.cons (.int .i64 c_Slot) (.cons (.int .i64 c_End) (.int .i64 c_Arg))))))]) ((True) ∧ (True)) (by kernel_rfl) (by kernel_rfl) ⟨trivial, trivial⟩ ?_
                                        refine KS.opsOf ?_
                                        have hq : (True) ∧ (True) := ⟨trivial, trivial⟩
                                        refine TOS.run 1 [] (by kernel_rfl) ?_ ?_
                                        · apply prop_of ?_ hq
                                          kernel_rfl
                                        refine TOS.nil (by kernel_rfl) ?_
                                        refine XS.blockEnd ?_
                                        refine XS.reAny [1, 2, 3, 4] (mkMask 95 [2, 3, 4, 7, 11]) ((1 : Int), (b_Slots.set c_Slot.toNat ((b_Slots.getD c_Slot.toNat ((0 : Int), ((0 : Int), ((List.replicate 32 (0 : Int)), (List.replicate 32 (0 : Int)))))).1, ((b_Slots.getD c_Slot.toNat ((0 : Int), ((0 : Int), ((List.replicate 32 (0 : Int)), (List.replicate 32 (0 : Int)))))).2.1, ((b_Slots.getD c_Slot.toNat ((0 : Int), ((0 : Int), ((List.replicate 32 (0 : Int)), (List.replicate 32 (0 : Int)))))).2.2.1, (((b_Slots.getD c_Slot.toNat ((0 : Int), ((0 : Int), ((List.replicate 32 (0 : Int)), (List.replicate 32 (0 : Int)))))).2.2.2).set c_End.toNat c_Arg)))))) h ?_
                                        kernel_rfl
                                      · refine TS.cond ((((b_Slots.getD c_Slot.toNat ((0 : Int), ((0 : Int), ((List.replicate 32 (0 : Int)), (List.replicate 32 (0 : Int)))))).2.2.1).getD c_End.toNat (0 : Int)) == (3 : Int)) ?_ (fun e => by rw [c114] at e; cases e) (fun e => ?_)
                                        · kernel_rfl
                                        refine TS.seq ?_
                                        rcases bif_some h with ⟨c115, h⟩ | ⟨c116, h⟩
                                        · have hq : (True) ∧ ((True) ∧ ((True) ∧ (((True) ∧ (c_Kind == (9 : Int)) = true) ∧ ((True) ∧ ((True) ∧ ((c_Slot.toNat < 9 ∧ (c_End.toNat < 32 ∧ (True))) ∧ ((True) ∧ (((True) ∧ ((((b_Slots.getD c_Slot.toNat ((0 : Int), ((0 : Int), ((List.replicate 32 (0 : Int)), (List.replicate 32 (0 : Int)))))).2.2.1).getD c_End.toNat (0 : Int)) == (3 : Int)) = false) ∧ ((True) ∧ ((True) ∧ ((c_Slot.toNat < 9 ∧ (c_End.toNat < 32 ∧ (True))) ∧ ((True) ∧ ((True) ∧ ((True) ∧ ((True) ∧ (True)))))))))))))))) := ⟨trivial, ⟨trivial, ⟨trivial, ⟨⟨trivial, c115⟩, ⟨trivial, ⟨trivial, ⟨⟨inR_lt (inb_ok t15), ⟨inR_lt (inb_ok t58), trivial⟩⟩, ⟨trivial, ⟨⟨trivial, c114⟩, ⟨trivial, ⟨trivial, ⟨⟨inR_lt (inb_ok t15), ⟨inR_lt (inb_ok t58), trivial⟩⟩, ⟨trivial, ⟨trivial, ⟨trivial, ⟨trivial, trivial⟩⟩⟩⟩⟩⟩⟩⟩⟩⟩⟩⟩⟩⟩⟩⟩
                                          refine TS.reg [.none, .none, .none, .dec true, .none, .none, .none, .none, .dec false] ?_ ?_
                                          · apply prop_of ?_ hq
                                            kernel_rfl
                                          refine XS.then ?_
                                          rcases bif_some h with ⟨c117, h⟩ | ⟨c118, h⟩
                                          · refine TS.cond ((((b_Slots.getD c_Slot.toNat ((0 : Int), ((0 : Int), ((List.replicate 32 (0 : Int)), (List.replicate 32 (0 : Int)))))).2.2.1).getD c_End.toNat (0 : Int)) == (1 : Int)) ?_ (fun e => ?_) (fun e => by rw [c117] at e; cases e)
                                            · kernel_rfl
                                            have hq : (True) ∧ ((True) ∧ ((c_Slot.toNat < 9 ∧ (c_End.toNat < 32 ∧ (True))) ∧ (True))) := ⟨trivial, ⟨trivial, ⟨⟨inR_lt (inb_ok t15), ⟨inR_lt (inb_ok t58), trivial⟩⟩, trivial⟩⟩⟩
                                            refine TS.reg [] ?_ ?_
                                            · apply prop_of ?_ hq
                                              kernel_rfl
                                            refine XS.blockEnd ?_
                                            refine XS.then ?_
                                            refine TS.seq ?_
                                            have hq : (True) ∧ (True) := ⟨trivial, trivial⟩
                                            refine TS.reg [] ?_ ?_
                                            · apply prop_of ?_ hq
                                              kernel_rfl
                                            refine XS.then ?_
                                            refine TS.ret ?_
                                            refine XS.backR 0 (mkTs 95 [(2, (.ptr 1 [])), (3, (.ptr 2 [])), (4, (.ptr 3 [])), (7, (.ptr 4 [])), (11, (.int .i64 (1 : Int)))]) (mkTs 95 [(2, (.ptr 1 [])), (3, (.ptr 2 [])), (4, (.ptr 3 [])), (7, (.ptr 4 [])), (11, (.int .i64 (1 : Int))), (59, (.int .i64 (1 : Int)))], [.dead, (.box 36 (.st (.arr 9 (.st (.pair (.int .i64) (.pair (.int .i64) (.pair (.arr 32 (.int .i64)) (.arr 32 (.int .i64)))))) b_Slots))), (.box 23 (.st (.cons (.int .i64 c_Kind) (.cons (.int .i64 c_Slot) (.cons (.int .i64 c_End) (.int .i64 c_Arg)))))), (.box 36 (.st (.arr 9 (.st (.pair (.int .i64) (.pair (.int .i64) (.pair (.arr 32 (.int .i64)) (.arr 32 (.int .i64)))))) (List.replicate 9 ((0 : Int), ((0 : Int), ((List.replicate 32 (0 : Int)), (List.replicate 32 (0 : Int))))))))), (.box 36 (.st (.arr 9 (.st (.pair (.int .i64) (.pair (.int .i64) (.pair (.arr 32 (.int .i64)) (.arr 32 (.int .i64)))))) (b_Slots.set c_Slot.toNat ((b_Slots.getD c_Slot.toNat ((0 : Int), ((0 : Int), ((List.replicate 32 (0 : Int)), (List.replicate 32 (0 : Int)))))).1, ((b_Slots.getD c_Slot.toNat ((0 : Int), ((0 : Int), ((List.replicate 32 (0 : Int)), (List.replicate 32 (0 : Int)))))).2.1, ((((b_Slots.getD c_Slot.toNat ((0 : Int), ((0 : Int), ((List.replicate 32 (0 : Int)), (List.replicate 32 (0 : Int)))))).2.2.1).set c_End.toNat (1 : Int)), (b_Slots.getD c_Slot.toNat ((0 : Int), ((0 : Int), ((List.replicate 32 (0 : Int)), (List.replicate 32 (0 : Int)))))).2.2.2))))))), (.box 23 (.st (.cons (.int .i64 c_Kind) (.cons (.int .i64 c_Slot) (.cons (.int .i64 c_End) (.int .i64 c_Arg))))))]) ((True) ∧ (True)) (by kernel_rfl) (by kernel_rfl) ⟨trivial, trivial⟩ ?_
                                            refine KS.opsOf ?_
                                            have hq : (True) ∧ (True) := ⟨trivial, trivial⟩
                                            refine TOS.run 1 [] (by kernel_rfl) ?_ ?_
                                            · apply prop_of ?_ hq
                                              kernel_rfl
                                            refine TOS.nil (by kernel_rfl) ?_
                                            refine XS.blockEnd ?_
                                            refine XS.reAny [1, 2, 3, 4] (mkMask 95 [2, 3, 4, 7, 11]) ((1 : Int), (b_Slots.set c_Slot.toNat ((b_Slots.getD c_Slot.toNat ((0 : Int), ((0 : Int), ((List.replicate 32 (0 : Int)), (List.replicate 32 (0 : Int)))))).1, ((b_Slots.getD c_Slot.toNat ((0 : Int), ((0 : Int), ((List.replicate 32 (0 : Int)), (List.replicate 32 (0 : Int)))))).2.1, ((((b_Slots.getD c_Slot.toNat ((0 : Int), ((0 : Int), ((List.replicate 32 (0 : Int)), (List.replicate 32 (0 : Int)))))).2.2.1).set c_End.toNat (1 : Int)), (b_Slots.getD c_Slot.toNat ((0 : Int), ((0 : Int), ((List.replicate 32 (0 : Int)), (List.replicate 32 (0 : Int)))))).2.2.2))))) h ?_
                                            kernel_rfl
                                          · refine TS.cond ((((b_Slots.getD c_Slot.toNat ((0 : Int), ((0 : Int), ((List.replicate 32 (0 : Int)), (List.replicate 32 (0 : Int)))))).2.2.1).getD c_End.toNat (0 : Int)) == (1 : Int)) ?_ (fun e => by rw [c118] at e; cases e) (fun e => ?_)
                                            · kernel_rfl
                                            refine TS.seq ?_
                                            have hq : (True) ∧ (True) := ⟨trivial, trivial⟩
                                            refine TS.reg [] ?_ ?_
                                            · apply prop_of ?_ hq
                                              kernel_rfl
                                            refine XS.then ?_
                                            refine TS.ret ?_
                                            refine XS.blockRet ?_
                                            refine XS.passR ?_
                                            refine XS.backR 0 (mkTs 95 [(2, (.ptr 1 [])), (3, (.ptr 2 [])), (4, (.ptr 3 [])), (7, (.ptr 4 [])), (11, (.int .i64 (1 : Int)))]) (mkTs 95 [(2, (.ptr 1 [])), (3, (.ptr 2 [])), (4, (.ptr 3 [])), (7, (.ptr 4 [])), (11, (.int .i64 (1 : Int))), (59, (.int .i64 (19 : Int)))], [.dead, (.box 36 (.st (.arr 9 (.st (.pair (.int .i64) (.pair (.int .i64) (.pair (.arr 32 (.int .i64)) (.arr 32 (.int .i64)))))) b_Slots))), (.box 23 (.st (.cons (.int .i64 c_Kind) (.cons (.int .i64 c_Slot) (.cons (.int .i64 c_End) (.int .i64 c_Arg)))))), (.box 36 (.st (.arr 9 (.st (.pair (.int .i64) (.pair (.int .i64) (.pair (.arr 32 (.int .i64)) (.arr 32 (.int .i64)))))) (List.replicate 9 ((0 : Int), ((0 : Int), ((List.replicate 32 (0 : Int)), (List.replicate 32 (0 : Int))))))))), (.box 36 (.st (.arr 9 (.st (.pair (.int .i64) (.pair (.int .i64) (.pair (.arr 32 (.int .i64)) (.arr 32 (.int .i64)))))) b_Slots))), (.box 23 (.st (.cons (.int .i64 c_Kind) (.cons (.int .i64 c_Slot) (.cons (.int .i64 c_End) (.int .i64 c_Arg))))))]) ((True) ∧ (True)) (by kernel_rfl) (by kernel_rfl) ⟨trivial, trivial⟩ ?_
                                            refine KS.opsOf ?_
                                            have hq : (True) ∧ (True) := ⟨trivial, trivial⟩
                                            refine TOS.run 1 [] (by kernel_rfl) ?_ ?_
                                            · apply prop_of ?_ hq
                                              kernel_rfl
                                            refine TOS.nil (by kernel_rfl) ?_
                                            refine XS.blockEnd ?_
                                            refine XS.reAny [1, 2, 3, 4] (mkMask 95 [2, 3, 4, 7, 11]) ((19 : Int), b_Slots) h ?_
                                            kernel_rfl
                                        · have hq : (True) ∧ ((True) ∧ ((True) ∧ (((True) ∧ (c_Kind == (9 : Int)) = false) ∧ ((True) ∧ ((True) ∧ (True)))))) := ⟨trivial, ⟨trivial, ⟨trivial, ⟨⟨trivial, c116⟩, ⟨trivial, ⟨trivial, trivial⟩⟩⟩⟩⟩⟩
                                          refine TS.reg [.none, .none, .none, .dec false] ?_ ?_
                                          · apply prop_of ?_ hq
                                            kernel_rfl
                                          refine XS.then ?_
                                          refine TS.no ?_ ?_
                                          · kernel_rfl
                                          refine TS.seq ?_
                                          have hq : (True) ∧ (True) := ⟨trivial, trivial⟩
                                          refine TS.reg [] ?_ ?_
                                          · apply prop_of ?_ hq
                                            kernel_rfl
                                          refine XS.then ?_
                                          refine TS.ret ?_
                                          refine XS.blockRet ?_
                                          refine XS.passR ?_
                                          refine XS.backR 0 (mkTs 95 [(2, (.ptr 1 [])), (3, (.ptr 2 [])), (4, (.ptr 3 [])), (7, (.ptr 4 [])), (11, (.int .i64 (1 : Int)))]) (mkTs 95 [(2, (.ptr 1 [])), (3, (.ptr 2 [])), (4, (.ptr 3 [])), (7, (.ptr 4 [])), (11, (.int .i64 (1 : Int))), (59, (.int .i64 (19 : Int)))], [.dead, (.box 36 (.st (.arr 9 (.st (.pair (.int .i64) (.pair (.int .i64) (.pair (.arr 32 (.int .i64)) (.arr 32 (.int .i64)))))) b_Slots))), (.box 23 (.st (.cons (.int .i64 c_Kind) (.cons (.int .i64 c_Slot) (.cons (.int .i64 c_End) (.int .i64 c_Arg)))))), (.box 36 (.st (.arr 9 (.st (.pair (.int .i64) (.pair (.int .i64) (.pair (.arr 32 (.int .i64)) (.arr 32 (.int .i64)))))) (List.replicate 9 ((0 : Int), ((0 : Int), ((List.replicate 32 (0 : Int)), (List.replicate 32 (0 : Int))))))))), (.box 36 (.st (.arr 9 (.st (.pair (.int .i64) (.pair (.int .i64) (.pair (.arr 32 (.int .i64)) (.arr 32 (.int .i64)))))) b_Slots))), (.box 23 (.st (.cons (.int .i64 c_Kind) (.cons (.int .i64 c_Slot) (.cons (.int .i64 c_End) (.int .i64 c_Arg))))))]) ((True) ∧ (True)) (by kernel_rfl) (by kernel_rfl) ⟨trivial, trivial⟩ ?_
                                          refine KS.opsOf ?_
                                          have hq : (True) ∧ (True) := ⟨trivial, trivial⟩
                                          refine TOS.run 1 [] (by kernel_rfl) ?_ ?_
                                          · apply prop_of ?_ hq
                                            kernel_rfl
                                          refine TOS.nil (by kernel_rfl) ?_
                                          refine XS.blockEnd ?_
                                          refine XS.reAny [1, 2, 3, 4] (mkMask 95 [2, 3, 4, 7, 11]) ((19 : Int), b_Slots) h ?_
                                          kernel_rfl
                                    · have hq : (True) ∧ ((True) ∧ ((True) ∧ (((True) ∧ (c_Kind == (8 : Int)) = false) ∧ ((True) ∧ ((True) ∧ (True)))))) := ⟨trivial, ⟨trivial, ⟨trivial, ⟨⟨trivial, c112⟩, ⟨trivial, ⟨trivial, trivial⟩⟩⟩⟩⟩⟩
                                      refine TS.reg [.none, .none, .none, .dec false] ?_ ?_
                                      · apply prop_of ?_ hq
                                        kernel_rfl
                                      refine XS.then ?_
                                      refine TS.no ?_ ?_
                                      · kernel_rfl
                                      refine TS.seq ?_
                                      rcases bif_some h with ⟨c119, h⟩ | ⟨c120, h⟩
                                      · rcases bif_some h with ⟨c121, h⟩ | ⟨c122, h⟩
                                        · have hq : (True) ∧ ((True) ∧ ((True) ∧ (((True) ∧ (c_Kind == (9 : Int)) = true) ∧ ((True) ∧ ((True) ∧ ((c_Slot.toNat < 9 ∧ (c_End.toNat < 32 ∧ (True))) ∧ ((True) ∧ (((True) ∧ ((((b_Slots.getD c_Slot.toNat ((0 : Int), ((0 : Int), ((List.replicate 32 (0 : Int)), (List.replicate 32 (0 : Int)))))).2.2.1).getD c_End.toNat (0 : Int)) == (3 : Int)) = true) ∧ ((True) ∧ ((True) ∧ ((True) ∧ (True)))))))))))) := ⟨trivial, ⟨trivial, ⟨trivial, ⟨⟨trivial, c119⟩, ⟨trivial, ⟨trivial, ⟨⟨inR_lt (inb_ok t15), ⟨inR_lt (inb_ok t58), trivial⟩⟩, ⟨trivial, ⟨⟨trivial, c121⟩, ⟨trivial, ⟨trivial, ⟨trivial, trivial⟩⟩⟩⟩⟩⟩⟩⟩⟩⟩⟩⟩
                                          refine TS.reg [.none, .none, .none, .dec true, .none, .none, .none, .none, .dec true] ?_ ?_
                                          · apply prop_of ?_ hq
                                            kernel_rfl
                                          refine XS.then ?_
                                          refine TS.yes ?_ ?_
                                          · kernel_rfl
                                          have hq : (True) ∧ ((True) ∧ ((c_Slot.toNat < 9 ∧ (c_End.toNat < 32 ∧ (True))) ∧ (True))) := ⟨trivial, ⟨trivial, ⟨⟨inR_lt (inb_ok t15), ⟨inR_lt (inb_ok t58), trivial⟩⟩, trivial⟩⟩⟩
                                          refine TS.reg [] ?_ ?_
                                          · apply prop_of ?_ hq
                                            kernel_rfl
                                          refine XS.blockEnd ?_
                                          refine XS.then ?_
                                          refine TS.seq ?_
                                          have hq : (True) ∧ (True) := ⟨trivial, trivial⟩
                                          refine TS.reg [] ?_ ?_
                                          · apply prop_of ?_ hq
                                            kernel_rfl
                                          refine XS.then ?_
                                          refine TS.ret ?_
                                          refine XS.backR 0 (mkTs 95 [(2, (.ptr 1 [])), (3, (.ptr 2 [])), (4, (.ptr 3 [])), (7, (.ptr 4 [])), (11, (.int .i64 (1 : Int)))]) (mkTs 95 [(2, (.ptr 1 [])), (3, (.ptr 2 [])), (4, (.ptr 3 [])), (7, (.ptr 4 [])), (11, (.int .i64 (1 : Int))), (59, (.int .i64 (1 : Int)))], [.dead, (.box 36 (.st (.arr 9 (.st (.pair (.int .i64) (.pair (.int .i64) (.pair (.arr 32 (.int .i64)) (.arr 32 (.int .i64)))))) b_Slots))), (.box 23 (.st (.cons (.int .i64 c_Kind) (.cons (.int .i64 c_Slot) (.cons (.int .i64 c_End) (.int .i64 c_Arg)))))), (.box 36 (.st (.arr 9 (.st (.pair (.int .i64) (.pair (.int .i64) (.pair (.arr 32 (.int .i64)) (.arr 32 (.int .i64)))))) (List.replicate 9 ((0 : Int), ((0 : Int), ((List.replicate 32 (0 : Int)), (List.replicate 32 (0 : Int))))))))), (.box 36 (.st (.arr 9 (.st (.pair (.int .i64) (.pair (.int .i64) (.pair (.arr 32 (.int .i64)) (.arr 32 (.int .i64)))))) (b_Slots.set c_Slot.toNat ((b_Slots.getD c_Slot.toNat ((0 : Int), ((0 : Int), ((List.replicate 32 (0 : Int)), (List.replicate 32 (0 : Int)))))).1, ((b_Slots.getD c_Slot.toNat ((0 : Int), ((0 : Int), ((List.replicate 32 (0 : Int)), (List.replicate 32 (0 : Int)))))).2.1, ((((b_Slots.getD c_Slot.toNat ((0 : Int), ((0 : Int), ((List.replicate 32 (0 : Int)), (List.replicate 32 (0 : Int)))))).2.2.1).set c_End.toNat (1 : Int)), (b_Slots.getD c_Slot.toNat ((0 : Int), ((0 : Int), ((List.replicate 32 (0 : Int)), (List.replicate 32 (0 : Int)))))).2.2.2))))))), (.box 23 (.st (.cons (.int .i64 c_Kind) (.cons (.int .i64 c_Slot) (.cons (.int .i64 c_End) (.int .i64 c_Arg))))))]) ((True) ∧ (True)) (by kernel_rfl) (by kernel_rfl) ⟨trivial, trivial⟩ ?_
                                          refine KS.opsOf ?_
                                          have hq : (True) ∧ (True) := ⟨trivial, trivial⟩
                                          refine TOS.run 1 [] (by kernel_rfl) ?_ ?_
                                          · apply prop_of ?_ hq
                                            kernel_rfl
                                          refine TOS.nil (by kernel_rfl) ?_
                                          refine XS.blockEnd ?_
                                          refine XS.reAny [1, 2, 3, 4] (mkMask 95 [2, 3, 4, 7, 11]) ((1 : Int), (b_Slots.set c_Slot.toNat ((b_Slots.getD c_Slot.toNat ((0 : Int), ((0 : Int), ((List.replicate 32 (0 : Int)), (List.replicate 32 (0 : Int)))))).1, ((b_Slots.getD c_Slot.toNat ((0 : Int), ((0 : Int), ((List.replicate 32 (0 : Int)), (List.replicate 32 (0 : Int)))))).2.1, ((((b_Slots.getD c_Slot.toNat ((0 : Int), ((0 : Int), ((List.replicate 32 (0 : Int)), (List.replicate 32 (0 : Int)))))).2.2.1).set c_End.toNat (1 : Int)), (b_Slots.getD c_Slot.toNat ((0 : Int), ((0 : Int), ((List.replicate 32 (0 : Int)), (List.replicate 32 (0 : Int)))))).2.2.2))))) h ?_
                                          kernel_rfl
                                        · have hq : (True) ∧ ((True) ∧ ((True) ∧ (((True) ∧ (c_Kind == (9 : Int)) = true) ∧ ((True) ∧ ((True) ∧ ((c_Slot.toNat < 9 ∧ (c_End.toNat < 32 ∧ (True))) ∧ ((True) ∧ (((True) ∧ ((((b_Slots.getD c_Slot.toNat ((0 : Int), ((0 : Int), ((List.replicate 32 (0 : Int)), (List.replicate 32 (0 : Int)))))).2.2.1).getD c_End.toNat (0 : Int)) == (3 : Int)) = false) ∧ ((True) ∧ ((True) ∧ ((c_Slot.toNat < 9 ∧ (c_End.toNat < 32 ∧ (True))) ∧ ((True) ∧ ((True) ∧ ((True) ∧ ((True) ∧ (True)))))))))))))))) := ⟨trivial, ⟨trivial, ⟨trivial, ⟨⟨trivial, c119⟩, ⟨trivial, ⟨trivial, ⟨⟨inR_lt (inb_ok t15), ⟨inR_lt (inb_ok t58), trivial⟩⟩, ⟨trivial, ⟨⟨trivial, c122⟩, ⟨trivial, ⟨trivial, ⟨⟨inR_lt (inb_ok t15), ⟨inR_lt (inb_ok t58), trivial⟩⟩, ⟨trivial, ⟨trivial, ⟨trivial, ⟨trivial, trivial⟩⟩⟩⟩⟩⟩⟩⟩⟩⟩⟩⟩⟩⟩⟩⟩
                                          refine TS.reg [.none, .none, .none, .dec true, .none, .none, .none, .none, .dec false] ?_ ?_
                                          · apply prop_of ?_ hq
                                            kernel_rfl
                                          refine XS.then ?_
                                          rcases bif_some h with ⟨c123, h⟩ | ⟨c124, h⟩
                                          · refine TS.cond ((((b_Slots.getD c_Slot.toNat ((0 : Int), ((0 : Int), ((List.replicate 32 (0 : Int)), (List.replicate 32 (0 : Int)))))).2.2.1).getD c_End.toNat (0 : Int)) == (1 : Int)) ?_ (fun e => ?_) (fun e => by rw [c123] at e; cases e)
                                            · kernel_rfl
                                            have hq : (True) ∧ ((True) ∧ ((c_Slot.toNat < 9 ∧ (c_End.toNat < 32 ∧ (True))) ∧ (True))) := ⟨trivial, ⟨trivial, ⟨⟨inR_lt (inb_ok t15), ⟨inR_lt (inb_ok t58), trivial⟩⟩, trivial⟩⟩⟩
                                            refine TS.reg [] ?_ ?_
                                            · apply prop_of ?_ hq
                                              kernel_rfl
                                            refine XS.blockEnd ?_
                                            refine XS.then ?_
                                            refine TS.seq ?_
                                            have hq : (True) ∧ (True) := ⟨trivial, trivial⟩
                                            refine TS.reg [] ?_ ?_
                                            · apply prop_of ?_ hq
                                              kernel_rfl
                                            refine XS.then ?_
                                            refine TS.ret ?_
                                            refine XS.backR 0 (mkTs 95 [(2, (.ptr 1 [])), (3, (.ptr 2 [])), (4, (.ptr 3 [])), (7, (.ptr 4 [])), (11, (.int .i64 (1 : Int)))]) (mkTs 95 [(2, (.ptr 1 [])), (3, (.ptr 2 [])), (4, (.ptr 3 [])), (7, (.ptr 4 [])), (11, (.int .i64 (1 : Int))), (59, (.int .i64 (1 : Int)))], [.dead, (.box 36 (.st (.arr 9 (.st (.pair (.int .i64) (.pair (.int .i64) (.pair (.arr 32 (.int .i64)) (.arr 32 (.int .i64)))))) b_Slots))), (.box 23 (.st (.cons (.int .i64 c_Kind) (.cons (.int .i64 c_Slot) (.cons (.int .i64 c_End) (.int .i64 c_Arg)))))), (.box 36 (.st (.arr 9 (.st (.pair (.int .i64) (.pair (.int .i64) (.pair (.arr 32 (.int .i64)) (.arr 32 (.int .i64)))))) (List.replicate 9 ((0 : Int), ((0 : Int), ((List.replicate 32 (0 : Int)), (List.replicate 32 (0 : Int))))))))), (.box 36 (.st (.arr 9 (.st (.pair (.int .i64) (.pair (.int .i64) (.pair (.arr 32 (.int .i64)) (.arr 32 (.int .i64)))))) (b_Slots.set c_Slot.toNat ((b_Slots.getD c_Slot.toNat ((0 : Int), ((0 : Int), ((List.replicate 32 (0 : Int)), (List.replicate 32 (0 : Int)))))).1, ((b_Slots.getD c_Slot.toNat ((0 : Int), ((0 : Int), ((List.replicate 32 (0 : Int)), (List.replicate 32 (0 : Int)))))).2.1, ((((b_Slots.getD c_Slot.toNat ((0 : Int), ((0 : Int), ((List.replicate 32 (0 : Int)), (List.replicate 32 (0 : Int)))))).2.2.1).set c_End.toNat (1 : Int)), (b_Slots.getD c_Slot.toNat ((0 : Int), ((0 : Int), ((List.replicate 32 (0 : Int)), (List.replicate 32 (0 : Int)))))).2.2.2))))))), (.box 23 (.st (.cons (.int .i64 c_Kind) (.cons (.int .i64 c_Slot) (.cons (.int .i64 c_End) (.int .i64 c_Arg))))))]) ((True) ∧ (True)) (by kernel_rfl) (by kernel_rfl) ⟨trivial, trivial⟩ ?_
                                            refine KS.opsOf ?_
                                            have hq : (True) ∧ (True) := ⟨trivial, trivial⟩
                                            refine TOS.run 1 [] (by kernel_rfl) ?_ ?_
                                            · apply prop_of ?_ hq
                                              kernel_rfl
                                            refine TOS.nil (by kernel_rfl) ?_
                                            refine XS.blockEnd ?_
                                            refine XS.reAny [1, 2, 3, 4] (mkMask 95 [2, 3, 4, 7, 11]) ((1 : Int), (b_Slots.set c_Slot.toNat ((b_Slots.getD c_Slot.toNat ((0 : Int), ((0 : Int), ((List.replicate 32 (0 : Int)), (List.replicate 32 (0 : Int)))))).1, ((b_Slots.getD c_Slot.toNat ((0 : Int), ((0 : Int), ((List.replicate 32 (0 : Int)), (List.replicate 32 (0 : Int)))))).2.1, ((((b_Slots.getD c_Slot.toNat ((0 : Int), ((0 : Int), ((List.replicate 32 (0 : Int)), (List.replicate 32 (0 : Int)))))).2.2.1).set c_End.toNat (1 : Int)), (b_Slots.getD c_Slot.toNat ((0 : Int), ((0 : Int), ((List.replicate 32 (0 : Int)), (List.replicate 32 (0 : Int)))))).2.2.2))))) h ?_
                                            kernel_rfl
                                          · refine TS.cond ((((b_Slots.getD c_Slot.toNat ((0 : Int), ((0 : Int), ((List.replicate 32 (0 : Int)), (List.replicate 32 (0 : Int)))))).2.2.1).getD c_End.toNat (0 : Int)) == (1 : Int)) ?_ (fun e => by rw [c124] at e; cases e) (fun e => ?_)
                                            · kernel_rfl
                                            refine TS.seq ?_
                                            have hq : (True) ∧ (True) := ⟨trivial, trivial⟩
                                            refine TS.reg [] ?_ ?_
                                            · apply prop_of ?_ hq
                                              kernel_rfl
                                            refine XS.then ?_
                                            refine TS.ret ?_
                                            refine XS.blockRet ?_
                                            refine XS.passR ?_
                                            refine XS.backR 0 (mkTs 95 [(2, (.ptr 1 [])), (3, (.ptr 2 [])), (4, (.ptr 3 [])), (7, (.ptr 4 [])), (11, (.int .i64 (1 : Int)))]) (mkTs 95 [(2, (.ptr 1 [])), (3, (.ptr 2 [])), (4, (.ptr 3 [])), (7, (.ptr 4 [])), (11, (.int .i64 (1 : Int))), (59, (.int .i64 (19 : Int)))], [.dead, (.box 36 (.st (.arr 9 (.st (.pair (.int .i64) (.pair (.int .i64) (.pair (.arr 32 (.int .i64)) (.arr 32 (.int .i64)))))) b_Slots))), (.box 23 (.st (.cons (.int .i64 c_Kind) (.cons (.int .i64 c_Slot) (.cons (.int .i64 c_End) (.int .i64 c_Arg)))))), (.box 36 (.st (.arr 9 (.st (.pair (.int .i64) (.pair (.int .i64) (.pair (.arr 32 (.int .i64)) (.arr 32 (.int .i64)))))) (List.replicate 9 ((0 : Int), ((0 : Int), ((List.replicate 32 (0 : Int)), (List.replicate 32 (0 : Int))))))))), (.box 36 (.st (.arr 9 (.st (.pair (.int .i64) (.pair (.int .i64) (.pair (.arr 32 (.int .i64)) (.arr 32 (.int .i64)))))) b_Slots))), (.box 23 (.st (.cons (.int .i64 c_Kind) (.cons (.int .i64 c_Slot) (.cons (.int .i64 c_End) (.int .i64 c_Arg))))))]) ((True) ∧ (True)) (by kernel_rfl) (by kernel_rfl) ⟨trivial, trivial⟩ ?_
                                            refine KS.opsOf ?_
                                            have hq : (True) ∧ (True) := ⟨trivial, trivial⟩
                                            refine TOS.run 1 [] (by kernel_rfl) ?_ ?_
                                            · apply prop_of ?_ hq
                                              kernel_rfl
                                            refine TOS.nil (by kernel_rfl) ?_
                                            refine XS.blockEnd ?_
                                            refine XS.reAny [1, 2, 3, 4] (mkMask 95 [2, 3, 4, 7, 11]) ((19 : Int), b_Slots) h ?_
                                            kernel_rfl
                                      · have hq : (True) ∧ ((True) ∧ ((True) ∧ (((True) ∧ (c_Kind == (9 : Int)) = false) ∧ ((True) ∧ ((True) ∧ (True)))))) := ⟨trivial, ⟨trivial, ⟨trivial, ⟨⟨trivial, c120⟩, ⟨trivial, ⟨trivial, trivial⟩⟩⟩⟩⟩⟩
                                        refine TS.reg [.none, .none, .none, .dec false] ?_ ?_
                                        · apply prop_of ?_ hq
                                          kernel_rfl
                                        refine XS.then ?_
                                        refine TS.no ?_ ?_
                                        · kernel_rfl
                                        refine TS.seq ?_
                                        have hq : (True) ∧ (True) := ⟨trivial, trivial⟩
                                        refine TS.reg [] ?_ ?_
                                        · apply prop_of ?_ hq
                                          kernel_rfl
                                        refine XS.then ?_
                                        refine TS.ret ?_
                                        refine XS.blockRet ?_
                                        refine XS.passR ?_
                                        refine XS.backR 0 (mkTs 95 [(2, (.ptr 1 [])), (3, (.ptr 2 [])), (4, (.ptr 3 [])), (7, (.ptr 4 [])), (11, (.int .i64 (1 : Int)))]) (mkTs 95 [(2, (.ptr 1 [])), (3, (.ptr 2 [])), (4, (.ptr 3 [])), (7, (.ptr 4 [])), (11, (.int .i64 (1 : Int))), (59, (.int .i64 (19 : Int)))], [.dead, (.box 36 (.st (.arr 9 (.st (.pair (.int .i64) (.pair (.int .i64) (.pair (.arr 32 (.int .i64)) (.arr 32 (.int .i64)))))) b_Slots))), (.box 23 (.st (.cons (.int .i64 c_Kind) (.cons (.int .i64 c_Slot) (.cons (.int .i64 c_End) (.int .i64 c_Arg)))))), (.box 36 (.st (.arr 9 (.st (.pair (.int .i64) (.pair (.int .i64) (.pair (.arr 32 (.int .i64)) (.arr 32 (.int .i64)))))) (List.replicate 9 ((0 : Int), ((0 : Int), ((List.replicate 32 (0 : Int)), (List.replicate 32 (0 : Int))))))))), (.box 36 (.st (.arr 9 (.st (.pair (.int .i64) (.pair (.int .i64) (.pair (.arr 32 (.int .i64)) (.arr 32 (.int .i64)))))) b_Slots))), (.box 23 (.st (.cons (.int .i64 c_Kind) (.cons (.int .i64 c_Slot) (.cons (.int .i64 c_End) (.int .i64 c_Arg))))))]) ((True) ∧ (True)) (by kernel_rfl) (by kernel_rfl) ⟨trivial, trivial⟩ ?_
                                        refine KS.opsOf ?_
                                        have hq : (True) ∧ (True) := ⟨trivial, trivial⟩
                                        refine TOS.run 1 [] (by kernel_rfl) ?_ ?_
                                        · apply prop_of ?_ hq
                                          kernel_rfl
                                        refine TOS.nil (by kernel_rfl) ?_
                                        refine XS.blockEnd ?_
                                        refine XS.reAny [1, 2, 3, 4] (mkMask 95 [2, 3, 4, 7, 11]) ((19 : Int), b_Slots) h ?_
                                        kernel_rfl
                                · rcases bif_some h with ⟨c125, h⟩ | ⟨c126, h⟩
                                  · rcases bif_some h with ⟨c127, h⟩ | ⟨c128, h⟩
                                    · have hq : (True) ∧ ((True) ∧ ((True) ∧ (((True) ∧ (c_Kind == (8 : Int)) = true) ∧ ((True) ∧ ((True) ∧ ((True) ∧ (((True) ∧ (decide (c_Arg < (0 : Int))) = true) ∧ ((True) ∧ ((True) ∧ ((True) ∧ (True))))))))))) := ⟨trivial, ⟨trivial, ⟨trivial, ⟨⟨trivial, c125⟩, ⟨trivial, ⟨trivial, ⟨trivial, ⟨⟨trivial, c127⟩, ⟨trivial, ⟨trivial, ⟨trivial, trivial⟩⟩⟩⟩⟩⟩⟩⟩⟩⟩⟩
                                      refine TS.reg [.none, .none, .none, .dec true, .none, .none, .none, .dec true] ?_ ?_
                                      · apply prop_of ?_ hq
                                        kernel_rfl
                                      refine XS.reAny [4, 0, 1, 2, 3, 5] (mkMask 101 [0, 3, 5, 51]) true h ?_
                                      kernel_rfl
                                    · have hq : (True) ∧ ((True) ∧ ((True) ∧ (((True) ∧ (c_Kind == (8 : Int)) = true) ∧ ((True) ∧ ((True) ∧ ((True) ∧ (((True) ∧ (decide (c_Arg < (0 : Int))) = false) ∧ ((True) ∧ ((True) ∧ ((True) ∧ ((True) ∧ ((True) ∧ ((True) ∧ (True)))))))))))))) := ⟨trivial, ⟨trivial, ⟨trivial, ⟨⟨trivial, c125⟩, ⟨trivial, ⟨trivial, ⟨trivial, ⟨⟨trivial, c128⟩, ⟨trivial, ⟨trivial, ⟨trivial, ⟨trivial, ⟨trivial, ⟨trivial, trivial⟩⟩⟩⟩⟩⟩⟩⟩⟩⟩⟩⟩⟩⟩
                                      refine TS.reg [.none, .none, .none, .dec true, .none, .none, .none, .dec false] ?_ ?_
                                      · apply prop_of ?_ hq
                                        kernel_rfl
                                      refine XS.reAny [4, 0, 1, 2, 3, 5] (mkMask 101 [0, 3, 5, 51]) (decide (c_Arg > (65535 : Int))) h ?_
                                      kernel_rfl
                                  · have hq : (True) ∧ ((True) ∧ ((True) ∧ (((True) ∧ (c_Kind == (8 : Int)) = false) ∧ ((True) ∧ ((True) ∧ (True)))))) := ⟨trivial, ⟨trivial, ⟨trivial, ⟨⟨trivial, c126⟩, ⟨trivial, ⟨trivial, trivial⟩⟩⟩⟩⟩⟩
                                    refine TS.reg [.none, .none, .none, .dec false] ?_ ?_
                                    · apply prop_of ?_ hq
                                      kernel_rfl
                                    refine XS.reAny [4, 0, 1, 2, 3, 5] (mkMask 101 [0, 3, 5, 51]) false h ?_
                                    kernel_rfl
        · rcases bif_some h with ⟨c129, h⟩ | ⟨c130, h⟩
          · have hq : (True) ∧ ((True) ∧ ((True) ∧ (((True) ∧ (decide (c_Kind < (1 : Int))) = true) ∧ ((True) ∧ ((True) ∧ ((True) ∧ ((True) ∧ ((True) ∧ ((True) ∧ (True)))))))))) := ⟨trivial, ⟨trivial, ⟨trivial, ⟨⟨trivial, c129⟩, ⟨trivial, ⟨trivial, ⟨trivial, ⟨trivial, ⟨trivial, ⟨trivial, trivial⟩⟩⟩⟩⟩⟩⟩⟩⟩⟩
            refine TS.reg [.none, .none, .none, .dec true] ?_ ?_
            · apply prop_of ?_ hq
              kernel_rfl
            refine XS.reAny [0, 1, 2, 3] (mkMask 95 [2, 3, 4, 7, 33]) true h ?_
            kernel_rfl
          · rcases bif_some h with ⟨c131, h⟩ | ⟨c132, h⟩
            · have hq : (True) ∧ ((True) ∧ ((True) ∧ (((True) ∧ (decide (c_Kind < (1 : Int))) = false) ∧ ((True) ∧ ((True) ∧ ((True) ∧ ((True) ∧ (((True) ∧ (decide (c_Kind > (9 : Int))) = true) ∧ ((True) ∧ ((True) ∧ ((True) ∧ ((True) ∧ (True))))))))))))) := ⟨trivial, ⟨trivial, ⟨trivial, ⟨⟨trivial, c130⟩, ⟨trivial, ⟨trivial, ⟨trivial, ⟨trivial, ⟨⟨trivial, c131⟩, ⟨trivial, ⟨trivial, ⟨trivial, ⟨trivial, trivial⟩⟩⟩⟩⟩⟩⟩⟩⟩⟩⟩⟩⟩
              refine TS.reg [.none, .none, .none, .dec false, .none, .none, .none, .none, .dec true] ?_ ?_
              · apply prop_of ?_ hq
                kernel_rfl
              refine XS.reAny [0, 1, 2, 3] (mkMask 95 [2, 3, 4, 7, 33]) true h ?_
              kernel_rfl
            · rcases bif_some h with ⟨c133, h⟩ | ⟨c134, h⟩
              · have hq : (True) ∧ ((True) ∧ ((True) ∧ (((True) ∧ (decide (c_Kind < (1 : Int))) = false) ∧ ((True) ∧ ((True) ∧ ((True) ∧ ((True) ∧ (((True) ∧ (decide (c_Kind > (9 : Int))) = false) ∧ ((True) ∧ ((True) ∧ ((True) ∧ ((True) ∧ (((True) ∧ (decide (c_Slot < (1 : Int))) = true) ∧ ((True) ∧ ((True) ∧ (True)))))))))))))))) := ⟨trivial, ⟨trivial, ⟨trivial, ⟨⟨trivial, c130⟩, ⟨trivial, ⟨trivial, ⟨trivial, ⟨trivial, ⟨⟨trivial, c132⟩, ⟨trivial, ⟨trivial, ⟨trivial, ⟨trivial, ⟨⟨trivial, c133⟩, ⟨trivial, ⟨trivial, trivial⟩⟩⟩⟩⟩⟩⟩⟩⟩⟩⟩⟩⟩⟩⟩⟩
                refine TS.reg [.none, .none, .none, .dec false, .none, .none, .none, .none, .dec false, .none, .none, .none, .none, .dec true] ?_ ?_
                · apply prop_of ?_ hq
                  kernel_rfl
                refine XS.reAny [0, 1, 2, 3] (mkMask 95 [2, 3, 4, 7, 33]) true h ?_
                kernel_rfl
              · have hq : (True) ∧ ((True) ∧ ((True) ∧ (((True) ∧ (decide (c_Kind < (1 : Int))) = false) ∧ ((True) ∧ ((True) ∧ ((True) ∧ ((True) ∧ (((True) ∧ (decide (c_Kind > (9 : Int))) = false) ∧ ((True) ∧ ((True) ∧ ((True) ∧ ((True) ∧ (((True) ∧ (decide (c_Slot < (1 : Int))) = false) ∧ ((True) ∧ ((True) ∧ ((True) ∧ ((True) ∧ ((True) ∧ (True))))))))))))))))))) := ⟨trivial, ⟨trivial, ⟨trivial, ⟨⟨trivial, c130⟩, ⟨trivial, ⟨trivial, ⟨trivial, ⟨trivial, ⟨⟨trivial, c132⟩, ⟨trivial, ⟨trivial, ⟨trivial, ⟨trivial, ⟨⟨trivial, c134⟩, ⟨trivial, ⟨trivial, ⟨trivial, ⟨trivial, ⟨trivial, trivial⟩⟩⟩⟩⟩⟩⟩⟩⟩⟩⟩⟩⟩⟩⟩⟩⟩⟩⟩
                refine TS.reg [.none, .none, .none, .dec false, .none, .none, .none, .none, .dec false, .none, .none, .none, .none, .dec false] ?_ ?_
                · apply prop_of ?_ hq
                  kernel_rfl
                refine XS.reAny [0, 1, 2, 3] (mkMask 95 [2, 3, 4, 7, 33]) (decide (c_Slot > (8 : Int))) h ?_
                kernel_rfl
end Go.Proofs.Ytkhfbleldchnpaa
