/- Functions of the program, as functions of values. -/
import Derived.Test.YtkhfbleldchnpaaAm27
import Derived.Test.YtkhfbleldchnpaaChecked
namespace Go.Proofs.Ytkhfbleldchnpaa
open Go Go.RowKit
set_option linter.unusedVariables false
set_option maxRecDepth 100000

/-! plugtree/slots.slot -/
def F66_j12 (n : Nat) (k66_11 : (Bool × Int) → Option Bool) (s_Ends : List Int) (more : Bool) (i : Int) : Bool → Option Bool
  | x_2 => (bif x_2 then (some false) else (bif more then (k66_11 (true, (IntKind.wrap .i64 (i + (1 : Int))))) else (bif (decide (i > (1 : Int))) then (bif inb i 32 then (k66_11 (((s_Ends.getD i.toNat (0 : Int)) != (0 : Int)), (IntKind.wrap .i64 (i + (1 : Int))))) else none) else (k66_11 (false, (IntKind.wrap .i64 (i + (1 : Int))))))))
def F66_l11 (n : Nat) (s_State : Int) (s_Ends : List Int) (s_Marks : List Int) (k66_11 : (Bool × Int) → Option Bool) : (Bool × Int) → Option Bool
  | (more, i) => (bif (decide (i < (32 : Int))) then (bif inb i 32 then (bif (decide ((s_Ends.getD i.toNat (0 : Int)) < (0 : Int))) then (F66_j12 n k66_11 s_Ends more i true) else (bif (decide ((s_Ends.getD i.toNat (0 : Int)) > (3 : Int))) then (F66_j12 n k66_11 s_Ends more i true) else (bif (decide ((s_Marks.getD i.toNat (0 : Int)) < (0 : Int))) then (F66_j12 n k66_11 s_Ends more i true) else (bif (decide ((s_Marks.getD i.toNat (0 : Int)) > (65535 : Int))) then (F66_j12 n k66_11 s_Ends more i true) else (bif ((s_Ends.getD i.toNat (0 : Int)) == (0 : Int)) then (F66_j12 n k66_11 s_Ends more i ((s_Marks.getD i.toNat (0 : Int)) != (0 : Int))) else (F66_j12 n k66_11 s_Ends more i false)))))) else none) else (some (more == (s_State == (3 : Int)))))
def F66_j7 (n : Nat) (s_State : Int) (s_Ends : List Int) (s_Marks : List Int) : Bool → Option Bool
  | x => (bif x then (some false) else (loopF (F66_l11 n s_State s_Ends s_Marks) n (false, (1 : Int))))
def F66 (n : Nat) (s_State : Int) (s_Addr : Int) (s_Ends : List Int) (s_Marks : List Int) : Option Bool := (bif (decide (s_State ≤ (1 : Int))) then (bif (Sh.beq (.st (.pair (.int .i64) (.pair (.int .i64) (.pair (.arr 32 (.int .i64)) (.arr 32 (.int .i64)))))) (s_State, (s_Addr, (s_Ends, s_Marks))) (s_State, ((0 : Int), ((List.replicate 32 (0 : Int)), (List.replicate 32 (0 : Int)))))) then (some (decide (s_State ≥ (0 : Int)))) else (some false)) else (bif (decide (s_State > (3 : Int))) then (F66_j7 n s_State s_Ends s_Marks true) else (bif (decide (s_Addr < (1 : Int))) then (F66_j7 n s_State s_Ends s_Marks true) else (bif (decide (s_Addr > (127 : Int))) then (F66_j7 n s_State s_Ends s_Marks true) else (bif ((s_Ends.getD 1 (0 : Int)) == (0 : Int)) then (F66_j7 n s_State s_Ends s_Marks true) else (bif ((s_Ends.getD 0 (0 : Int)) != (0 : Int)) then (F66_j7 n s_State s_Ends s_Marks true) else (F66_j7 n s_State s_Ends s_Marks ((s_Marks.getD 0 (0 : Int)) != (0 : Int)))))))))
theorem F66_ok (n : Nat) (s_State : Int) (s_Addr : Int) (s_Ends : List Int) (s_Marks : List Int) (r : Bool) (h : F66 n s_State s_Addr s_Ends s_Marks = some r) : PureC Try.prog 66 [(.st (.cons (.int .i64 s_State) (.cons (.int .i64 s_Addr) (.cons (.arr 32 (.int .i64) s_Ends) (.arr 32 (.int .i64) s_Marks)))))] (.bool r) [] := by
  refine PureC.mkS Try.func66 rfl rfl ?_
  intro w0 fz0 hfz
  replace h : (bif (decide (s_State ≤ (1 : Int))) then (bif (Sh.beq (.st (.pair (.int .i64) (.pair (.int .i64) (.pair (.arr 32 (.int .i64)) (.arr 32 (.int .i64)))))) (s_State, (s_Addr, (s_Ends, s_Marks))) (s_State, ((0 : Int), ((List.replicate 32 (0 : Int)), (List.replicate 32 (0 : Int)))))) then (some (decide (s_State ≥ (0 : Int)))) else (some false)) else (bif (decide (s_State > (3 : Int))) then (F66_j7 n s_State s_Ends s_Marks true) else (bif (decide (s_Addr < (1 : Int))) then (F66_j7 n s_State s_Ends s_Marks true) else (bif (decide (s_Addr > (127 : Int))) then (F66_j7 n s_State s_Ends s_Marks true) else (bif ((s_Ends.getD 1 (0 : Int)) == (0 : Int)) then (F66_j7 n s_State s_Ends s_Marks true) else (bif ((s_Ends.getD 0 (0 : Int)) != (0 : Int)) then (F66_j7 n s_State s_Ends s_Marks true) else (F66_j7 n s_State s_Ends s_Marks ((s_Marks.getD 0 (0 : Int)) != (0 : Int))))))))) = some r := h
  refine TS.seq ?_
  have hq : (True) ∧ ((True) ∧ (True)) := ⟨trivial, ⟨trivial, trivial⟩⟩
  refine TS.reg [] ?_ ?_
  · apply prop_of ?_ hq
    kernel_rfl
  refine XS.then ?_
  refine TS.seq ?_
  refine TS.seq ?_
  have hq : (True) ∧ ((True) ∧ ((True) ∧ (True))) := ⟨trivial, ⟨trivial, ⟨trivial, trivial⟩⟩⟩
  refine TS.reg [] ?_ ?_
  · apply prop_of ?_ hq
    kernel_rfl
  refine XS.then ?_
  rcases bif_some h with ⟨c1, h⟩ | ⟨c2, h⟩
  · refine TS.cond (decide (s_State ≤ (1 : Int))) ?_ (fun e => ?_) (fun e => by rw [c1] at e; cases e)
    · kernel_rfl
    refine TS.seq ?_
    rcases bif_some h with ⟨c3, h⟩ | ⟨c4, h⟩
    · have hq : (True) ∧ ((True) ∧ ((True) ∧ (((True) ∧ (True)) ∧ ((True) ∧ (((True) ∧ (Sh.beq (.st (.pair (.int .i64) (.pair (.int .i64) (.pair (.arr 32 (.int .i64)) (.arr 32 (.int .i64)))))) (s_State, (s_Addr, (s_Ends, s_Marks))) (s_State, ((0 : Int), ((List.replicate 32 (0 : Int)), (List.replicate 32 (0 : Int)))))) = true) ∧ ((True) ∧ ((True) ∧ ((True) ∧ ((True) ∧ ((True) ∧ (True))))))))))) := ⟨trivial, ⟨trivial, ⟨trivial, ⟨⟨trivial, trivial⟩, ⟨trivial, ⟨⟨trivial, c3⟩, ⟨trivial, ⟨trivial, ⟨trivial, ⟨trivial, ⟨trivial, trivial⟩⟩⟩⟩⟩⟩⟩⟩⟩⟩⟩
      refine TS.reg [.none, .none, .none, .none, .none, .dec true] ?_ ?_
      · apply prop_of ?_ hq
        kernel_rfl
      refine XS.then ?_
      refine TS.ret ?_
      refine XS.passR ?_
      obtain rfl : (decide (s_State ≥ (0 : Int))) = r := Option.some.inj h
      exact XS.fin [] ((True) ∧ (True)) (by kernel_rfl) ⟨trivial, trivial⟩
    · have hq : (True) ∧ ((True) ∧ ((True) ∧ (((True) ∧ (True)) ∧ ((True) ∧ (((True) ∧ (Sh.beq (.st (.pair (.int .i64) (.pair (.int .i64) (.pair (.arr 32 (.int .i64)) (.arr 32 (.int .i64)))))) (s_State, (s_Addr, (s_Ends, s_Marks))) (s_State, ((0 : Int), ((List.replicate 32 (0 : Int)), (List.replicate 32 (0 : Int)))))) = false) ∧ ((True) ∧ ((True) ∧ (True)))))))) := ⟨trivial, ⟨trivial, ⟨trivial, ⟨⟨trivial, trivial⟩, ⟨trivial, ⟨⟨trivial, c4⟩, ⟨trivial, ⟨trivial, trivial⟩⟩⟩⟩⟩⟩⟩⟩
      refine TS.reg [.none, .none, .none, .none, .none, .dec false] ?_ ?_
      · apply prop_of ?_ hq
        kernel_rfl
      refine XS.then ?_
      refine TS.ret ?_
      refine XS.passR ?_
      obtain rfl : false = r := Option.some.inj h
      exact XS.fin [] ((True) ∧ (True)) (by kernel_rfl) ⟨trivial, trivial⟩
  · refine TS.cond (decide (s_State ≤ (1 : Int))) ?_ (fun e => by rw [c2] at e; cases e) (fun e => ?_)
    · kernel_rfl
    refine TS.skip ?_
    refine XS.then ?_
    refine TS.seq ?_
    refine TS.seq ?_
    refine TS.cut (D := Bool) (fun d => match d with | x => (mkTs 110 [(1, (.ptr 0 [])), (48, (.bool x))], [(.box 33 (.st (.cons (.int .i64 s_State) (.cons (.int .i64 s_Addr) (.cons (.arr 32 (.int .i64) s_Ends) (.arr 32 (.int .i64) s_Marks))))))])) (fun d => F66_j7 n s_State s_Ends s_Marks d = some r) ?_ ?_
    · rintro x h
      replace h : (bif x then (some false) else (loopF (F66_l11 n s_State s_Ends s_Marks) n (false, (1 : Int)))) = some r := h
      refine XS.then ?_
      rcases bif_some h with ⟨c5, h⟩ | ⟨c6, h⟩
      · refine TS.cond x ?_ (fun e => ?_) (fun e => by rw [c5] at e; cases e)
        · kernel_rfl
        refine TS.seq ?_
        have hq : (True) ∧ (True) := ⟨trivial, trivial⟩
        refine TS.reg [] ?_ ?_
        · apply prop_of ?_ hq
          kernel_rfl
        refine XS.then ?_
        refine TS.ret ?_
        refine XS.passR ?_
        obtain rfl : false = r := Option.some.inj h
        exact XS.fin [] ((True) ∧ (True)) (by kernel_rfl) ⟨trivial, trivial⟩
      · refine TS.cond x ?_ (fun e => by rw [c6] at e; cases e) (fun e => ?_)
        · kernel_rfl
        refine TS.skip ?_
        refine XS.then ?_
        refine TS.seq ?_
        have hq : (True) ∧ (True) := ⟨trivial, trivial⟩
        refine TS.reg [] ?_ ?_
        · apply prop_of ?_ hq
          kernel_rfl
        refine XS.then ?_
        refine TS.seq ?_
        refine TS.seq ?_
        have hq : (True) ∧ (True) := ⟨trivial, trivial⟩
        refine TS.reg [] ?_ ?_
        · apply prop_of ?_ hq
          kernel_rfl
        refine XS.then ?_
        refine TS.block ?_
        refine TS.reLoop [0] (mkMask 110 [1, 3, 4]) (D := Bool × Int) (fun d => match d with | (more, i) => (mkTs 110 [(1, (.ptr 0 [])), (3, (.bool more)), (4, (.int .i64 i))], [(.box 33 (.st (.cons (.int .i64 s_State) (.cons (.int .i64 s_Addr) (.cons (.arr 32 (.int .i64) s_Ends) (.arr 32 (.int .i64) s_Marks))))))])) (fun n' d => loopF (F66_l11 n s_State s_Ends s_Marks) n' d = some r) n (false, (1 : Int)) h ?_ (fun d => loopF_zero _ d r) ?_
        · kernel_rfl
        · rintro n11 ⟨more, i⟩ h
          replace h : (bif (decide (i < (32 : Int))) then (bif inb i 32 then (bif (decide ((s_Ends.getD i.toNat (0 : Int)) < (0 : Int))) then (F66_j12 n (loopF (F66_l11 n s_State s_Ends s_Marks) n11) s_Ends more i true) else (bif (decide ((s_Ends.getD i.toNat (0 : Int)) > (3 : Int))) then (F66_j12 n (loopF (F66_l11 n s_State s_Ends s_Marks) n11) s_Ends more i true) else (bif (decide ((s_Marks.getD i.toNat (0 : Int)) < (0 : Int))) then (F66_j12 n (loopF (F66_l11 n s_State s_Ends s_Marks) n11) s_Ends more i true) else (bif (decide ((s_Marks.getD i.toNat (0 : Int)) > (65535 : Int))) then (F66_j12 n (loopF (F66_l11 n s_State s_Ends s_Marks) n11) s_Ends more i true) else (bif ((s_Ends.getD i.toNat (0 : Int)) == (0 : Int)) then (F66_j12 n (loopF (F66_l11 n s_State s_Ends s_Marks) n11) s_Ends more i ((s_Marks.getD i.toNat (0 : Int)) != (0 : Int))) else (F66_j12 n (loopF (F66_l11 n s_State s_Ends s_Marks) n11) s_Ends more i false)))))) else none) else (some (more == (s_State == (3 : Int))))) = some r := h
          refine TS.seq ?_
          refine TS.seq ?_
          have hq : (True) ∧ ((True) ∧ (True)) := ⟨trivial, ⟨trivial, trivial⟩⟩
          refine TS.reg [] ?_ ?_
          · apply prop_of ?_ hq
            kernel_rfl
          refine XS.then ?_
          rcases bif_some h with ⟨c7, h⟩ | ⟨c8, h⟩
          · refine TS.cond (decide (i < (32 : Int))) ?_ (fun e => ?_) (fun e => by rw [c7] at e; cases e)
            · kernel_rfl
            refine TS.skip ?_
            refine XS.then ?_
            refine TS.seq ?_
            refine TS.block ?_
            refine TS.seq ?_
            refine TS.seq ?_
            refine TS.cut (D := Bool) (fun d => match d with | x_2 => (mkTs 110 [(1, (.ptr 0 [])), (3, (.bool more)), (4, (.int .i64 i)), (92, (.bool x_2))], [(.box 33 (.st (.cons (.int .i64 s_State) (.cons (.int .i64 s_Addr) (.cons (.arr 32 (.int .i64) s_Ends) (.arr 32 (.int .i64) s_Marks))))))])) (fun d => F66_j12 n (loopF (F66_l11 n s_State s_Ends s_Marks) n11) s_Ends more i d = some r) ?_ ?_
            · rintro x_2 h
              replace h : (bif x_2 then (some false) else (bif more then ((loopF (F66_l11 n s_State s_Ends s_Marks) n11) (true, (IntKind.wrap .i64 (i + (1 : Int))))) else (bif (decide (i > (1 : Int))) then (bif inb i 32 then ((loopF (F66_l11 n s_State s_Ends s_Marks) n11) (((s_Ends.getD i.toNat (0 : Int)) != (0 : Int)), (IntKind.wrap .i64 (i + (1 : Int))))) else none) else ((loopF (F66_l11 n s_State s_Ends s_Marks) n11) (false, (IntKind.wrap .i64 (i + (1 : Int)))))))) = some r := h
              refine XS.then ?_
              rcases bif_some h with ⟨c9, h⟩ | ⟨c10, h⟩
              · refine TS.cond x_2 ?_ (fun e => ?_) (fun e => by rw [c9] at e; cases e)
                · kernel_rfl
                refine TS.seq ?_
                have hq : (True) ∧ (True) := ⟨trivial, trivial⟩
                refine TS.reg [] ?_ ?_
                · apply prop_of ?_ hq
                  kernel_rfl
                refine XS.then ?_
                refine TS.ret ?_
                refine XS.passR ?_
                refine XS.blockRet ?_
                refine XS.passR ?_
                refine XS.passR ?_
                refine XS.blockRet ?_
                refine XS.passR ?_
                obtain rfl : false = r := Option.some.inj h
                exact XS.fin [] ((True) ∧ (True)) (by kernel_rfl) ⟨trivial, trivial⟩
              · refine TS.cond x_2 ?_ (fun e => by rw [c10] at e; cases e) (fun e => ?_)
                · kernel_rfl
                refine TS.skip ?_
                refine XS.then ?_
                rcases bif_some h with ⟨c11, h⟩ | ⟨c12, h⟩
                · have hq : (True) ∧ (((True) ∧ more = true) ∧ ((True) ∧ ((True) ∧ (True)))) := ⟨trivial, ⟨⟨trivial, c11⟩, ⟨trivial, ⟨trivial, trivial⟩⟩⟩⟩
                  refine TS.reg [.none, .dec true] ?_ ?_
                  · apply prop_of ?_ hq
                    kernel_rfl
                  refine XS.blockEnd ?_
                  refine XS.then ?_
                  have hq : (True) ∧ ((True) ∧ ((True) ∧ (True))) := ⟨trivial, ⟨trivial, ⟨trivial, trivial⟩⟩⟩
                  refine TS.reg [] ?_ ?_
                  · apply prop_of ?_ hq
                    kernel_rfl
                  refine XS.reAny [0] (mkMask 110 [1, 3, 4]) (true, (IntKind.wrap .i64 (i + (1 : Int)))) h ?_
                  kernel_rfl
                · rcases bif_some h with ⟨c13, h⟩ | ⟨c14, h⟩
                  · obtain ⟨t15, h⟩ := test_some h
                    have hq : (True) ∧ (((True) ∧ more = false) ∧ ((True) ∧ ((True) ∧ (((True) ∧ (decide (i > (1 : Int))) = true) ∧ ((True) ∧ ((True) ∧ ((inR i 32) ∧ ((i.toNat < 32 ∧ (True)) ∧ ((True) ∧ ((True) ∧ ((True) ∧ ((True) ∧ (True))))))))))))) := ⟨trivial, ⟨⟨trivial, c12⟩, ⟨trivial, ⟨trivial, ⟨⟨trivial, c13⟩, ⟨trivial, ⟨trivial, ⟨inb_ok t15, ⟨⟨inR_lt (inb_ok t15), trivial⟩, ⟨trivial, ⟨trivial, ⟨trivial, ⟨trivial, trivial⟩⟩⟩⟩⟩⟩⟩⟩⟩⟩⟩⟩⟩
                    refine TS.reg [.none, .dec false, .none, .none, .dec true] ?_ ?_
                    · apply prop_of ?_ hq
                      kernel_rfl
                    refine XS.blockEnd ?_
                    refine XS.then ?_
                    have hq : (True) ∧ ((True) ∧ ((True) ∧ (True))) := ⟨trivial, ⟨trivial, ⟨trivial, trivial⟩⟩⟩
                    refine TS.reg [] ?_ ?_
                    · apply prop_of ?_ hq
                      kernel_rfl
                    refine XS.reAny [0] (mkMask 110 [1, 3, 4]) (((s_Ends.getD i.toNat (0 : Int)) != (0 : Int)), (IntKind.wrap .i64 (i + (1 : Int)))) h ?_
                    kernel_rfl
                  · have hq : (True) ∧ (((True) ∧ more = false) ∧ ((True) ∧ ((True) ∧ (((True) ∧ (decide (i > (1 : Int))) = false) ∧ ((True) ∧ ((True) ∧ ((True) ∧ (True)))))))) := ⟨trivial, ⟨⟨trivial, c12⟩, ⟨trivial, ⟨trivial, ⟨⟨trivial, c14⟩, ⟨trivial, ⟨trivial, ⟨trivial, trivial⟩⟩⟩⟩⟩⟩⟩⟩
                    refine TS.reg [.none, .dec false, .none, .none, .dec false] ?_ ?_
                    · apply prop_of ?_ hq
                      kernel_rfl
                    refine XS.blockEnd ?_
                    refine XS.then ?_
                    have hq : (True) ∧ ((True) ∧ ((True) ∧ (True))) := ⟨trivial, ⟨trivial, ⟨trivial, trivial⟩⟩⟩
                    refine TS.reg [] ?_ ?_
                    · apply prop_of ?_ hq
                      kernel_rfl
                    refine XS.reAny [0] (mkMask 110 [1, 3, 4]) (false, (IntKind.wrap .i64 (i + (1 : Int)))) h ?_
                    kernel_rfl
            · obtain ⟨t16, h⟩ := test_some h
              rcases bif_some h with ⟨c17, h⟩ | ⟨c18, h⟩
              · have hq : (True) ∧ ((True) ∧ ((inR i 32) ∧ ((i.toNat < 32 ∧ (True)) ∧ ((True) ∧ (((True) ∧ (decide ((s_Ends.getD i.toNat (0 : Int)) < (0 : Int))) = true) ∧ ((True) ∧ ((True) ∧ ((True) ∧ ((True) ∧ ((True) ∧ ((True) ∧ ((True) ∧ (True))))))))))))) := ⟨trivial, ⟨trivial, ⟨inb_ok t16, ⟨⟨inR_lt (inb_ok t16), trivial⟩, ⟨trivial, ⟨⟨trivial, c17⟩, ⟨trivial, ⟨trivial, ⟨trivial, ⟨trivial, ⟨trivial, ⟨trivial, ⟨trivial, trivial⟩⟩⟩⟩⟩⟩⟩⟩⟩⟩⟩⟩⟩
                refine TS.reg [.none, .none, .none, .none, .none, .dec true] ?_ ?_
                · apply prop_of ?_ hq
                  kernel_rfl
                refine XS.reAny [0] (mkMask 110 [1, 3, 4, 92]) true h ?_
                kernel_rfl
              · rcases bif_some h with ⟨c19, h⟩ | ⟨c20, h⟩
                · have hq : (True) ∧ ((True) ∧ ((inR i 32) ∧ ((i.toNat < 32 ∧ (True)) ∧ ((True) ∧ (((True) ∧ (decide ((s_Ends.getD i.toNat (0 : Int)) < (0 : Int))) = false) ∧ ((True) ∧ ((True) ∧ ((inR i 32) ∧ ((i.toNat < 32 ∧ (True)) ∧ ((True) ∧ ((True) ∧ (((True) ∧ (decide ((s_Ends.getD i.toNat (0 : Int)) > (3 : Int))) = true) ∧ ((True) ∧ ((True) ∧ ((True) ∧ ((True) ∧ ((True) ∧ (True)))))))))))))))))) := ⟨trivial, ⟨trivial, ⟨inb_ok t16, ⟨⟨inR_lt (inb_ok t16), trivial⟩, ⟨trivial, ⟨⟨trivial, c18⟩, ⟨trivial, ⟨trivial, ⟨inb_ok t16, ⟨⟨inR_lt (inb_ok t16), trivial⟩, ⟨trivial, ⟨trivial, ⟨⟨trivial, c19⟩, ⟨trivial, ⟨trivial, ⟨trivial, ⟨trivial, ⟨trivial, trivial⟩⟩⟩⟩⟩⟩⟩⟩⟩⟩⟩⟩⟩⟩⟩⟩⟩⟩
                  refine TS.reg [.none, .none, .none, .none, .none, .dec false, .none, .none, .none, .none, .none, .none, .dec true] ?_ ?_
                  · apply prop_of ?_ hq
                    kernel_rfl
                  refine XS.reAny [0] (mkMask 110 [1, 3, 4, 92]) true h ?_
                  kernel_rfl
                · rcases bif_some h with ⟨c21, h⟩ | ⟨c22, h⟩
                  · have hq : (True) ∧ ((True) ∧ ((inR i 32) ∧ ((i.toNat < 32 ∧ (True)) ∧ ((True) ∧ (((True) ∧ (decide ((s_Ends.getD i.toNat (0 : Int)) < (0 : Int))) = false) ∧ ((True) ∧ ((True) ∧ ((inR i 32) ∧ ((i.toNat < 32 ∧ (True)) ∧ ((True) ∧ ((True) ∧ (((True) ∧ (decide ((s_Ends.getD i.toNat (0 : Int)) > (3 : Int))) = false) ∧ ((True) ∧ ((True) ∧ ((inR i 32) ∧ ((i.toNat < 32 ∧ (True)) ∧ ((True) ∧ ((True) ∧ (((True) ∧ (decide ((s_Marks.getD i.toNat (0 : Int)) < (0 : Int))) = true) ∧ ((True) ∧ ((True) ∧ ((True) ∧ (True))))))))))))))))))))))) := ⟨trivial, ⟨trivial, ⟨inb_ok t16, ⟨⟨inR_lt (inb_ok t16), trivial⟩, ⟨trivial, ⟨⟨trivial, c18⟩, ⟨trivial, ⟨trivial, ⟨inb_ok t16, ⟨⟨inR_lt (inb_ok t16), trivial⟩, ⟨trivial, ⟨trivial, ⟨⟨trivial, c20⟩, ⟨trivial, ⟨trivial, ⟨inb_ok t16, ⟨⟨inR_lt (inb_ok t16), trivial⟩, ⟨trivial, ⟨trivial, ⟨⟨trivial, c21⟩, ⟨trivial, ⟨trivial, ⟨trivial, trivial⟩⟩⟩⟩⟩⟩⟩⟩⟩⟩⟩⟩⟩⟩⟩⟩⟩⟩⟩⟩⟩⟩⟩
                    refine TS.reg [.none, .none, .none, .none, .none, .dec false, .none, .none, .none, .none, .none, .none, .dec false, .none, .none, .none, .none, .none, .none, .dec true] ?_ ?_
                    · apply prop_of ?_ hq
                      kernel_rfl
                    refine XS.reAny [0] (mkMask 110 [1, 3, 4, 92]) true h ?_
                    kernel_rfl
                  · rcases bif_some h with ⟨c23, h⟩ | ⟨c24, h⟩
                    · have hq : (True) ∧ ((True) ∧ ((inR i 32) ∧ ((i.toNat < 32 ∧ (True)) ∧ ((True) ∧ (((True) ∧ (decide ((s_Ends.getD i.toNat (0 : Int)) < (0 : Int))) = false) ∧ ((True) ∧ ((True) ∧ ((inR i 32) ∧ ((i.toNat < 32 ∧ (True)) ∧ ((True) ∧ ((True) ∧ (((True) ∧ (decide ((s_Ends.getD i.toNat (0 : Int)) > (3 : Int))) = false) ∧ ((True) ∧ ((True) ∧ ((inR i 32) ∧ ((i.toNat < 32 ∧ (True)) ∧ ((True) ∧ ((True) ∧ (((True) ∧ (decide ((s_Marks.getD i.toNat (0 : Int)) < (0 : Int))) = false) ∧ ((True) ∧ ((True) ∧ ((inR i 32) ∧ ((i.toNat < 32 ∧ (True)) ∧ ((True) ∧ ((True) ∧ (((True) ∧ (decide ((s_Marks.getD i.toNat (0 : Int)) > (65535 : Int))) = true) ∧ ((True) ∧ (True)))))))))))))))))))))))))))) := ⟨trivial, ⟨trivial, ⟨inb_ok t16, ⟨⟨inR_lt (inb_ok t16), trivial⟩, ⟨trivial, ⟨⟨trivial, c18⟩, ⟨trivial, ⟨trivial, ⟨inb_ok t16, ⟨⟨inR_lt (inb_ok t16), trivial⟩, ⟨trivial, ⟨trivial, ⟨⟨trivial, c20⟩, ⟨trivial, ⟨trivial, ⟨inb_ok t16, ⟨⟨inR_lt (inb_ok t16), trivial⟩, ⟨trivial, ⟨trivial, ⟨⟨trivial, c22⟩, ⟨trivial, ⟨trivial, ⟨inb_ok t16, ⟨⟨inR_lt (inb_ok t16), trivial⟩, ⟨trivial, ⟨trivial, ⟨⟨trivial, c23⟩, ⟨trivial, trivial⟩⟩⟩⟩⟩⟩⟩⟩⟩⟩⟩⟩⟩⟩⟩⟩⟩⟩⟩⟩⟩⟩⟩⟩⟩⟩⟩⟩
                      refine TS.reg [.none, .none, .none, .none, .none, .dec false, .none, .none, .none, .none, .none, .none, .dec false, .none, .none, .none, .none, .none, .none, .dec false, .none, .none, .none, .none, .none, .none, .dec true] ?_ ?_
                      · apply prop_of ?_ hq
                        kernel_rfl
                      refine XS.reAny [0] (mkMask 110 [1, 3, 4, 92]) true h ?_
                      kernel_rfl
                    · rcases bif_some h with ⟨c25, h⟩ | ⟨c26, h⟩
                      · have hq : (True) ∧ ((True) ∧ ((inR i 32) ∧ ((i.toNat < 32 ∧ (True)) ∧ ((True) ∧ (((True) ∧ (decide ((s_Ends.getD i.toNat (0 : Int)) < (0 : Int))) = false) ∧ ((True) ∧ ((True) ∧ ((inR i 32) ∧ ((i.toNat < 32 ∧ (True)) ∧ ((True) ∧ ((True) ∧ (((True) ∧ (decide ((s_Ends.getD i.toNat (0 : Int)) > (3 : Int))) = false) ∧ ((True) ∧ ((True) ∧ ((inR i 32) ∧ ((i.toNat < 32 ∧ (True)) ∧ ((True) ∧ ((True) ∧ (((True) ∧ (decide ((s_Marks.getD i.toNat (0 : Int)) < (0 : Int))) = false) ∧ ((True) ∧ ((True) ∧ ((inR i 32) ∧ ((i.toNat < 32 ∧ (True)) ∧ ((True) ∧ ((True) ∧ (((True) ∧ (decide ((s_Marks.getD i.toNat (0 : Int)) > (65535 : Int))) = false) ∧ ((True) ∧ ((True) ∧ ((inR i 32) ∧ ((i.toNat < 32 ∧ (True)) ∧ ((True) ∧ (((True) ∧ ((s_Ends.getD i.toNat (0 : Int)) == (0 : Int)) = true) ∧ ((True) ∧ ((True) ∧ ((inR i 32) ∧ ((i.toNat < 32 ∧ (True)) ∧ ((True) ∧ ((True) ∧ ((True) ∧ (True)))))))))))))))))))))))))))))))))))))))) := ⟨trivial, ⟨trivial, ⟨inb_ok t16, ⟨⟨inR_lt (inb_ok t16), trivial⟩, ⟨trivial, ⟨⟨trivial, c18⟩, ⟨trivial, ⟨trivial, ⟨inb_ok t16, ⟨⟨inR_lt (inb_ok t16), trivial⟩, ⟨trivial, ⟨trivial, ⟨⟨trivial, c20⟩, ⟨trivial, ⟨trivial, ⟨inb_ok t16, ⟨⟨inR_lt (inb_ok t16), trivial⟩, ⟨trivial, ⟨trivial, ⟨⟨trivial, c22⟩, ⟨trivial, ⟨trivial, ⟨inb_ok t16, ⟨⟨inR_lt (inb_ok t16), trivial⟩, ⟨trivial, ⟨trivial, ⟨⟨trivial, c24⟩, ⟨trivial, ⟨trivial, ⟨inb_ok t16, ⟨⟨inR_lt (inb_ok t16), trivial⟩, ⟨trivial, ⟨⟨trivial, c25⟩, ⟨trivial, ⟨trivial, ⟨inb_ok t16, ⟨⟨inR_lt (inb_ok t16), trivial⟩, ⟨trivial, ⟨trivial, ⟨trivial, trivial⟩⟩⟩⟩⟩⟩⟩⟩⟩⟩⟩⟩⟩⟩⟩⟩⟩⟩⟩⟩⟩⟩⟩⟩⟩⟩⟩⟩⟩⟩⟩⟩⟩⟩⟩⟩⟩⟩⟩⟩
                        refine TS.reg [.none, .none, .none, .none, .none, .dec false, .none, .none, .none, .none, .none, .none, .dec false, .none, .none, .none, .none, .none, .none, .dec false, .none, .none, .none, .none, .none, .none, .dec false, .none, .none, .none, .none, .none, .dec true] ?_ ?_
                        · apply prop_of ?_ hq
                          kernel_rfl
                        refine XS.reAny [0] (mkMask 110 [1, 3, 4, 92]) ((s_Marks.getD i.toNat (0 : Int)) != (0 : Int)) h ?_
                        kernel_rfl
                      · have hq : (True) ∧ ((True) ∧ ((inR i 32) ∧ ((i.toNat < 32 ∧ (True)) ∧ ((True) ∧ (((True) ∧ (decide ((s_Ends.getD i.toNat (0 : Int)) < (0 : Int))) = false) ∧ ((True) ∧ ((True) ∧ ((inR i 32) ∧ ((i.toNat < 32 ∧ (True)) ∧ ((True) ∧ ((True) ∧ (((True) ∧ (decide ((s_Ends.getD i.toNat (0 : Int)) > (3 : Int))) = false) ∧ ((True) ∧ ((True) ∧ ((inR i 32) ∧ ((i.toNat < 32 ∧ (True)) ∧ ((True) ∧ ((True) ∧ (((True) ∧ (decide ((s_Marks.getD i.toNat (0 : Int)) < (0 : Int))) = false) ∧ ((True) ∧ ((True) ∧ ((inR i 32) ∧ ((i.toNat < 32 ∧ (True)) ∧ ((True) ∧ ((True) ∧ (((True) ∧ (decide ((s_Marks.getD i.toNat (0 : Int)) > (65535 : Int))) = false) ∧ ((True) ∧ ((True) ∧ ((inR i 32) ∧ ((i.toNat < 32 ∧ (True)) ∧ ((True) ∧ (((True) ∧ ((s_Ends.getD i.toNat (0 : Int)) == (0 : Int)) = false) ∧ ((True) ∧ ((True) ∧ (True))))))))))))))))))))))))))))))))))) := ⟨trivial, ⟨trivial, ⟨inb_ok t16, ⟨⟨inR_lt (inb_ok t16), trivial⟩, ⟨trivial, ⟨⟨trivial, c18⟩, ⟨trivial, ⟨trivial, ⟨inb_ok t16, ⟨⟨inR_lt (inb_ok t16), trivial⟩, ⟨trivial, ⟨trivial, ⟨⟨trivial, c20⟩, ⟨trivial, ⟨trivial, ⟨inb_ok t16, ⟨⟨inR_lt (inb_ok t16), trivial⟩, ⟨trivial, ⟨trivial, ⟨⟨trivial, c22⟩, ⟨trivial, ⟨trivial, ⟨inb_ok t16, ⟨⟨inR_lt (inb_ok t16), trivial⟩, ⟨trivial, ⟨trivial, ⟨⟨trivial, c24⟩, ⟨trivial, ⟨trivial, ⟨inb_ok t16, ⟨⟨inR_lt (inb_ok t16), trivial⟩, ⟨trivial, ⟨⟨trivial, c26⟩, ⟨trivial, ⟨trivial, trivial⟩⟩⟩⟩⟩⟩⟩⟩⟩⟩⟩⟩⟩⟩⟩⟩⟩⟩⟩⟩⟩⟩⟩⟩⟩⟩⟩⟩⟩⟩⟩⟩⟩⟩⟩
                        refine TS.reg [.none, .none, .none, .none, .none, .dec false, .none, .none, .none, .none, .none, .none, .dec false, .none, .none, .none, .none, .none, .none, .dec false, .none, .none, .none, .none, .none, .none, .dec false, .none, .none, .none, .none, .none, .dec false] ?_ ?_
                        · apply prop_of ?_ hq
                          kernel_rfl
                        refine XS.reAny [0] (mkMask 110 [1, 3, 4, 92]) false h ?_
                        kernel_rfl
          · refine TS.cond (decide (i < (32 : Int))) ?_ (fun e => by rw [c8] at e; cases e) (fun e => ?_)
            · kernel_rfl
            refine TS.exit ?_
            refine XS.passE ?_
            refine XS.passE ?_
            refine XS.out ?_
            refine XS.then ?_
            refine TS.seq ?_
            have hq : (True) ∧ ((True) ∧ ((True) ∧ ((True) ∧ ((True) ∧ ((True) ∧ (True)))))) := ⟨trivial, ⟨trivial, ⟨trivial, ⟨trivial, ⟨trivial, ⟨trivial, trivial⟩⟩⟩⟩⟩⟩
            refine TS.reg [] ?_ ?_
            · apply prop_of ?_ hq
              kernel_rfl
            refine XS.then ?_
            refine TS.ret ?_
            obtain rfl : (more == (s_State == (3 : Int))) = r := Option.some.inj h
            exact XS.fin [] ((True) ∧ (True)) (by kernel_rfl) ⟨trivial, trivial⟩
    · rcases bif_some h with ⟨c27, h⟩ | ⟨c28, h⟩
      · have hq : (True) ∧ ((True) ∧ ((True) ∧ (((True) ∧ (decide (s_State > (3 : Int))) = true) ∧ ((True) ∧ ((True) ∧ ((True) ∧ ((True) ∧ ((True) ∧ ((True) ∧ ((True) ∧ ((True) ∧ ((True) ∧ (True))))))))))))) := ⟨trivial, ⟨trivial, ⟨trivial, ⟨⟨trivial, c27⟩, ⟨trivial, ⟨trivial, ⟨trivial, ⟨trivial, ⟨trivial, ⟨trivial, ⟨trivial, ⟨trivial, ⟨trivial, trivial⟩⟩⟩⟩⟩⟩⟩⟩⟩⟩⟩⟩⟩
        refine TS.reg [.none, .none, .none, .dec true] ?_ ?_
        · apply prop_of ?_ hq
          kernel_rfl
        refine XS.reAny [0] (mkMask 110 [1, 48]) true h ?_
        kernel_rfl
      · rcases bif_some h with ⟨c29, h⟩ | ⟨c30, h⟩
        · have hq : (True) ∧ ((True) ∧ ((True) ∧ (((True) ∧ (decide (s_State > (3 : Int))) = false) ∧ ((True) ∧ ((True) ∧ ((True) ∧ ((True) ∧ (((True) ∧ (decide (s_Addr < (1 : Int))) = true) ∧ ((True) ∧ ((True) ∧ ((True) ∧ ((True) ∧ ((True) ∧ ((True) ∧ ((True) ∧ (True)))))))))))))))) := ⟨trivial, ⟨trivial, ⟨trivial, ⟨⟨trivial, c28⟩, ⟨trivial, ⟨trivial, ⟨trivial, ⟨trivial, ⟨⟨trivial, c29⟩, ⟨trivial, ⟨trivial, ⟨trivial, ⟨trivial, ⟨trivial, ⟨trivial, ⟨trivial, trivial⟩⟩⟩⟩⟩⟩⟩⟩⟩⟩⟩⟩⟩⟩⟩⟩
          refine TS.reg [.none, .none, .none, .dec false, .none, .none, .none, .none, .dec true] ?_ ?_
          · apply prop_of ?_ hq
            kernel_rfl
          refine XS.reAny [0] (mkMask 110 [1, 48]) true h ?_
          kernel_rfl
        · rcases bif_some h with ⟨c31, h⟩ | ⟨c32, h⟩
          · have hq : (True) ∧ ((True) ∧ ((True) ∧ (((True) ∧ (decide (s_State > (3 : Int))) = false) ∧ ((True) ∧ ((True) ∧ ((True) ∧ ((True) ∧ (((True) ∧ (decide (s_Addr < (1 : Int))) = false) ∧ ((True) ∧ ((True) ∧ ((True) ∧ ((True) ∧ (((True) ∧ (decide (s_Addr > (127 : Int))) = true) ∧ ((True) ∧ ((True) ∧ ((True) ∧ ((True) ∧ ((True) ∧ (True))))))))))))))))))) := ⟨trivial, ⟨trivial, ⟨trivial, ⟨⟨trivial, c28⟩, ⟨trivial, ⟨trivial, ⟨trivial, ⟨trivial, ⟨⟨trivial, c30⟩, ⟨trivial, ⟨trivial, ⟨trivial, ⟨trivial, ⟨⟨trivial, c31⟩, ⟨trivial, ⟨trivial, ⟨trivial, ⟨trivial, ⟨trivial, trivial⟩⟩⟩⟩⟩⟩⟩⟩⟩⟩⟩⟩⟩⟩⟩⟩⟩⟩⟩
            refine TS.reg [.none, .none, .none, .dec false, .none, .none, .none, .none, .dec false, .none, .none, .none, .none, .dec true] ?_ ?_
            · apply prop_of ?_ hq
              kernel_rfl
            refine XS.reAny [0] (mkMask 110 [1, 48]) true h ?_
            kernel_rfl
          · rcases bif_some h with ⟨c33, h⟩ | ⟨c34, h⟩
            · have hq : (True) ∧ ((True) ∧ ((True) ∧ (((True) ∧ (decide (s_State > (3 : Int))) = false) ∧ ((True) ∧ ((True) ∧ ((True) ∧ ((True) ∧ (((True) ∧ (decide (s_Addr < (1 : Int))) = false) ∧ ((True) ∧ ((True) ∧ ((True) ∧ ((True) ∧ (((True) ∧ (decide (s_Addr > (127 : Int))) = false) ∧ ((True) ∧ ((inR (1 : Int) 32) ∧ ((1 < 32 ∧ (True)) ∧ ((True) ∧ ((True) ∧ (((True) ∧ ((s_Ends.getD 1 (0 : Int)) == (0 : Int)) = true) ∧ ((True) ∧ ((True) ∧ ((True) ∧ (True))))))))))))))))))))))) := ⟨trivial, ⟨trivial, ⟨trivial, ⟨⟨trivial, c28⟩, ⟨trivial, ⟨trivial, ⟨trivial, ⟨trivial, ⟨⟨trivial, c30⟩, ⟨trivial, ⟨trivial, ⟨trivial, ⟨trivial, ⟨⟨trivial, c32⟩, ⟨trivial, ⟨⟨by decide, by decide⟩, ⟨⟨(by decide), trivial⟩, ⟨trivial, ⟨trivial, ⟨⟨trivial, c33⟩, ⟨trivial, ⟨trivial, ⟨trivial, trivial⟩⟩⟩⟩⟩⟩⟩⟩⟩⟩⟩⟩⟩⟩⟩⟩⟩⟩⟩⟩⟩⟩⟩
              refine TS.reg [.none, .none, .none, .dec false, .none, .none, .none, .none, .dec false, .none, .none, .none, .none, .dec false, .none, .none, .none, .none, .none, .dec true] ?_ ?_
              · apply prop_of ?_ hq
                kernel_rfl
              refine XS.reAny [0] (mkMask 110 [1, 48]) true h ?_
              kernel_rfl
            · rcases bif_some h with ⟨c35, h⟩ | ⟨c36, h⟩
              · have hq : (True) ∧ ((True) ∧ ((True) ∧ (((True) ∧ (decide (s_State > (3 : Int))) = false) ∧ ((True) ∧ ((True) ∧ ((True) ∧ ((True) ∧ (((True) ∧ (decide (s_Addr < (1 : Int))) = false) ∧ ((True) ∧ ((True) ∧ ((True) ∧ ((True) ∧ (((True) ∧ (decide (s_Addr > (127 : Int))) = false) ∧ ((True) ∧ ((inR (1 : Int) 32) ∧ ((1 < 32 ∧ (True)) ∧ ((True) ∧ ((True) ∧ (((True) ∧ ((s_Ends.getD 1 (0 : Int)) == (0 : Int)) = false) ∧ ((True) ∧ ((inR (0 : Int) 32) ∧ ((0 < 32 ∧ (True)) ∧ ((True) ∧ ((True) ∧ (((True) ∧ ((s_Ends.getD 0 (0 : Int)) != (0 : Int)) = true) ∧ ((True) ∧ (True))))))))))))))))))))))))))) := ⟨trivial, ⟨trivial, ⟨trivial, ⟨⟨trivial, c28⟩, ⟨trivial, ⟨trivial, ⟨trivial, ⟨trivial, ⟨⟨trivial, c30⟩, ⟨trivial, ⟨trivial, ⟨trivial, ⟨trivial, ⟨⟨trivial, c32⟩, ⟨trivial, ⟨⟨by decide, by decide⟩, ⟨⟨(by decide), trivial⟩, ⟨trivial, ⟨trivial, ⟨⟨trivial, c34⟩, ⟨trivial, ⟨⟨by decide, by decide⟩, ⟨⟨(by decide), trivial⟩, ⟨trivial, ⟨trivial, ⟨⟨trivial, c35⟩, ⟨trivial, trivial⟩⟩⟩⟩⟩⟩⟩⟩⟩⟩⟩⟩⟩⟩⟩⟩⟩⟩⟩⟩⟩⟩⟩⟩⟩⟩⟩
                refine TS.reg [.none, .none, .none, .dec false, .none, .none, .none, .none, .dec false, .none, .none, .none, .none, .dec false, .none, .none, .none, .none, .none, .dec false, .none, .none, .none, .none, .none, .dec true] ?_ ?_
                · apply prop_of ?_ hq
                  kernel_rfl
                refine XS.reAny [0] (mkMask 110 [1, 48]) true h ?_
                kernel_rfl
              · have hq : (True) ∧ ((True) ∧ ((True) ∧ (((True) ∧ (decide (s_State > (3 : Int))) = false) ∧ ((True) ∧ ((True) ∧ ((True) ∧ ((True) ∧ (((True) ∧ (decide (s_Addr < (1 : Int))) = false) ∧ ((True) ∧ ((True) ∧ ((True) ∧ ((True) ∧ (((True) ∧ (decide (s_Addr > (127 : Int))) = false) ∧ ((True) ∧ ((inR (1 : Int) 32) ∧ ((1 < 32 ∧ (True)) ∧ ((True) ∧ ((True) ∧ (((True) ∧ ((s_Ends.getD 1 (0 : Int)) == (0 : Int)) = false) ∧ ((True) ∧ ((inR (0 : Int) 32) ∧ ((0 < 32 ∧ (True)) ∧ ((True) ∧ ((True) ∧ (((True) ∧ ((s_Ends.getD 0 (0 : Int)) != (0 : Int)) = false) ∧ ((True) ∧ ((inR (0 : Int) 32) ∧ ((0 < 32 ∧ (True)) ∧ ((True) ∧ ((True) ∧ (True))))))))))))))))))))))))))))))) := ⟨trivial, ⟨trivial, ⟨trivial, ⟨⟨trivial, c28⟩, ⟨trivial, ⟨trivial, ⟨trivial, ⟨trivial, ⟨⟨trivial, c30⟩, ⟨trivial, ⟨trivial, ⟨trivial, ⟨trivial, ⟨⟨trivial, c32⟩, ⟨trivial, ⟨⟨by decide, by decide⟩, ⟨⟨(by decide), trivial⟩, ⟨trivial, ⟨trivial, ⟨⟨trivial, c34⟩, ⟨trivial, ⟨⟨by decide, by decide⟩, ⟨⟨(by decide), trivial⟩, ⟨trivial, ⟨trivial, ⟨⟨trivial, c36⟩, ⟨trivial, ⟨⟨by decide, by decide⟩, ⟨⟨(by decide), trivial⟩, ⟨trivial, ⟨trivial, trivial⟩⟩⟩⟩⟩⟩⟩⟩⟩⟩⟩⟩⟩⟩⟩⟩⟩⟩⟩⟩⟩⟩⟩⟩⟩⟩⟩⟩⟩⟩⟩
                refine TS.reg [.none, .none, .none, .dec false, .none, .none, .none, .none, .dec false, .none, .none, .none, .none, .dec false, .none, .none, .none, .none, .none, .dec false, .none, .none, .none, .none, .none, .dec false] ?_ ?_
                · apply prop_of ?_ hq
                  kernel_rfl
                refine XS.reAny [0] (mkMask 110 [1, 48]) ((s_Marks.getD 0 (0 : Int)) != (0 : Int)) h ?_
                kernel_rfl

/-! plugtree/slots.Check -/
def F23_l8 (n : Nat) (k23_7 : Int → Option Int) (b_Slots : List (Int × Int × (List Int) × List Int)) (i : Int) (k23_8 : Int → Option Int) : Int → Option Int
  | k => (bif (decide (k < i)) then (bif ((b_Slots.getD i.toNat ((0 : Int), ((0 : Int), ((List.replicate 32 (0 : Int)), (List.replicate 32 (0 : Int)))))).2.1 != (0 : Int)) then (bif inb k 9 then (bif ((b_Slots.getD i.toNat ((0 : Int), ((0 : Int), ((List.replicate 32 (0 : Int)), (List.replicate 32 (0 : Int)))))).2.1 == (b_Slots.getD k.toNat ((0 : Int), ((0 : Int), ((List.replicate 32 (0 : Int)), (List.replicate 32 (0 : Int)))))).2.1) then (some (4 : Int)) else (k23_8 (IntKind.wrap .i64 (k + (1 : Int))))) else none) else (k23_8 (IntKind.wrap .i64 (k + (1 : Int))))) else (k23_7 (IntKind.wrap .i64 (i + (1 : Int)))))
def F23_l7 (n : Nat) (b_Slots : List (Int × Int × (List Int) × List Int)) (k23_7 : Int → Option Int) : Int → Option Int
  | i => (bif (decide (i < (9 : Int))) then (bif inb i 9 then ((F66 n ((b_Slots.getD i.toNat ((0 : Int), ((0 : Int), ((List.replicate 32 (0 : Int)), (List.replicate 32 (0 : Int)))))).1) ((b_Slots.getD i.toNat ((0 : Int), ((0 : Int), ((List.replicate 32 (0 : Int)), (List.replicate 32 (0 : Int)))))).2.1) ((b_Slots.getD i.toNat ((0 : Int), ((0 : Int), ((List.replicate 32 (0 : Int)), (List.replicate 32 (0 : Int)))))).2.2.1) ((b_Slots.getD i.toNat ((0 : Int), ((0 : Int), ((List.replicate 32 (0 : Int)), (List.replicate 32 (0 : Int)))))).2.2.2)).bind fun y_2 => (bif (!y_2) then (some (4 : Int)) else (loopF (F23_l8 n k23_7 b_Slots i) n (1 : Int)))) else none) else (some (0 : Int)))
def F23 (n : Nat) (b_Slots : List (Int × Int × (List Int) × List Int)) : Option Int := (bif (!(Sh.beq (.st (.pair (.int .i64) (.pair (.int .i64) (.pair (.arr 32 (.int .i64)) (.arr 32 (.int .i64)))))) ((b_Slots.getD 0 ((0 : Int), ((0 : Int), ((List.replicate 32 (0 : Int)), (List.replicate 32 (0 : Int)))))).1, ((b_Slots.getD 0 ((0 : Int), ((0 : Int), ((List.replicate 32 (0 : Int)), (List.replicate 32 (0 : Int)))))).2.1, ((b_Slots.getD 0 ((0 : Int), ((0 : Int), ((List.replicate 32 (0 : Int)), (List.replicate 32 (0 : Int)))))).2.2.1, (b_Slots.getD 0 ((0 : Int), ((0 : Int), ((List.replicate 32 (0 : Int)), (List.replicate 32 (0 : Int)))))).2.2.2))) ((0 : Int), ((0 : Int), ((List.replicate 32 (0 : Int)), (List.replicate 32 (0 : Int))))))) then (some (4 : Int)) else (loopF (F23_l7 n b_Slots) n (1 : Int)))
theorem F23_ok (n : Nat) (b_Slots : List (Int × Int × (List Int) × List Int)) (r : Int) (h : F23 n b_Slots = some r) : PureC Try.prog 23 [(.st (.arr 9 (.st (.pair (.int .i64) (.pair (.int .i64) (.pair (.arr 32 (.int .i64)) (.arr 32 (.int .i64)))))) b_Slots))] (.int .i64 r) [] := by
  refine PureC.mkS Try.func23 rfl rfl ?_
  intro w0 fz0 hfz
  replace h : (bif (!(Sh.beq (.st (.pair (.int .i64) (.pair (.int .i64) (.pair (.arr 32 (.int .i64)) (.arr 32 (.int .i64)))))) ((b_Slots.getD 0 ((0 : Int), ((0 : Int), ((List.replicate 32 (0 : Int)), (List.replicate 32 (0 : Int)))))).1, ((b_Slots.getD 0 ((0 : Int), ((0 : Int), ((List.replicate 32 (0 : Int)), (List.replicate 32 (0 : Int)))))).2.1, ((b_Slots.getD 0 ((0 : Int), ((0 : Int), ((List.replicate 32 (0 : Int)), (List.replicate 32 (0 : Int)))))).2.2.1, (b_Slots.getD 0 ((0 : Int), ((0 : Int), ((List.replicate 32 (0 : Int)), (List.replicate 32 (0 : Int)))))).2.2.2))) ((0 : Int), ((0 : Int), ((List.replicate 32 (0 : Int)), (List.replicate 32 (0 : Int))))))) then (some (4 : Int)) else (loopF (F23_l7 n b_Slots) n (1 : Int))) = some r := h
  refine TS.seq ?_
  have hq : (True) ∧ ((True) ∧ (True)) := ⟨trivial, ⟨trivial, trivial⟩⟩
  refine TS.reg [] ?_ ?_
  · apply prop_of ?_ hq
    kernel_rfl
  refine XS.then ?_
  refine TS.seq ?_
  refine TS.seq ?_
  have hq : (True) ∧ ((inR (0 : Int) 9) ∧ ((0 < 9 ∧ (True)) ∧ ((True) ∧ ((True) ∧ (True))))) := ⟨trivial, ⟨⟨by decide, by decide⟩, ⟨⟨(by decide), trivial⟩, ⟨trivial, ⟨trivial, trivial⟩⟩⟩⟩⟩
  refine TS.reg [] ?_ ?_
  · apply prop_of ?_ hq
    kernel_rfl
  refine XS.then ?_
  rcases bif_some h with ⟨c1, h⟩ | ⟨c2, h⟩
  · refine TS.cond (!(Sh.beq (.st (.pair (.int .i64) (.pair (.int .i64) (.pair (.arr 32 (.int .i64)) (.arr 32 (.int .i64)))))) ((b_Slots.getD 0 ((0 : Int), ((0 : Int), ((List.replicate 32 (0 : Int)), (List.replicate 32 (0 : Int)))))).1, ((b_Slots.getD 0 ((0 : Int), ((0 : Int), ((List.replicate 32 (0 : Int)), (List.replicate 32 (0 : Int)))))).2.1, ((b_Slots.getD 0 ((0 : Int), ((0 : Int), ((List.replicate 32 (0 : Int)), (List.replicate 32 (0 : Int)))))).2.2.1, (b_Slots.getD 0 ((0 : Int), ((0 : Int), ((List.replicate 32 (0 : Int)), (List.replicate 32 (0 : Int)))))).2.2.2))) ((0 : Int), ((0 : Int), ((List.replicate 32 (0 : Int)), (List.replicate 32 (0 : Int))))))) ?_ (fun e => ?_) (fun e => by rw [c1] at e; cases e)
    · kernel_rfl
    refine TS.seq ?_
    have hq : (True) ∧ (True) := ⟨trivial, trivial⟩
    refine TS.reg [] ?_ ?_
    · apply prop_of ?_ hq
      kernel_rfl
    refine XS.then ?_
    refine TS.ret ?_
    refine XS.passR ?_
    obtain rfl : (4 : Int) = r := Option.some.inj h
    exact XS.fin [] ((True) ∧ (True)) (by kernel_rfl) ⟨trivial, trivial⟩
  · refine TS.cond (!(Sh.beq (.st (.pair (.int .i64) (.pair (.int .i64) (.pair (.arr 32 (.int .i64)) (.arr 32 (.int .i64)))))) ((b_Slots.getD 0 ((0 : Int), ((0 : Int), ((List.replicate 32 (0 : Int)), (List.replicate 32 (0 : Int)))))).1, ((b_Slots.getD 0 ((0 : Int), ((0 : Int), ((List.replicate 32 (0 : Int)), (List.replicate 32 (0 : Int)))))).2.1, ((b_Slots.getD 0 ((0 : Int), ((0 : Int), ((List.replicate 32 (0 : Int)), (List.replicate 32 (0 : Int)))))).2.2.1, (b_Slots.getD 0 ((0 : Int), ((0 : Int), ((List.replicate 32 (0 : Int)), (List.replicate 32 (0 : Int)))))).2.2.2))) ((0 : Int), ((0 : Int), ((List.replicate 32 (0 : Int)), (List.replicate 32 (0 : Int))))))) ?_ (fun e => by rw [c2] at e; cases e) (fun e => ?_)
    · kernel_rfl
    refine TS.skip ?_
    refine XS.then ?_
    refine TS.seq ?_
    refine TS.seq ?_
    have hq : (True) ∧ (True) := ⟨trivial, trivial⟩
    refine TS.reg [] ?_ ?_
    · apply prop_of ?_ hq
      kernel_rfl
    refine XS.then ?_
    refine TS.block ?_
    refine TS.reLoop [0] (mkMask 44 [1, 3]) (D := Int) (fun d => match d with | i => (mkTs 44 [(1, (.ptr 0 [])), (3, (.int .i64 i))], [(.box 36 (.st (.arr 9 (.st (.pair (.int .i64) (.pair (.int .i64) (.pair (.arr 32 (.int .i64)) (.arr 32 (.int .i64)))))) b_Slots)))])) (fun n' d => loopF (F23_l7 n b_Slots) n' d = some r) n (1 : Int) h ?_ (fun d => loopF_zero _ d r) ?_
    · kernel_rfl
    · rintro n7 i h
      replace h : (bif (decide (i < (9 : Int))) then (bif inb i 9 then ((F66 n ((b_Slots.getD i.toNat ((0 : Int), ((0 : Int), ((List.replicate 32 (0 : Int)), (List.replicate 32 (0 : Int)))))).1) ((b_Slots.getD i.toNat ((0 : Int), ((0 : Int), ((List.replicate 32 (0 : Int)), (List.replicate 32 (0 : Int)))))).2.1) ((b_Slots.getD i.toNat ((0 : Int), ((0 : Int), ((List.replicate 32 (0 : Int)), (List.replicate 32 (0 : Int)))))).2.2.1) ((b_Slots.getD i.toNat ((0 : Int), ((0 : Int), ((List.replicate 32 (0 : Int)), (List.replicate 32 (0 : Int)))))).2.2.2)).bind fun y_2 => (bif (!y_2) then (some (4 : Int)) else (loopF (F23_l8 n (loopF (F23_l7 n b_Slots) n7) b_Slots i) n (1 : Int)))) else none) else (some (0 : Int))) = some r := h
      refine TS.seq ?_
      refine TS.seq ?_
      have hq : (True) ∧ ((True) ∧ (True)) := ⟨trivial, ⟨trivial, trivial⟩⟩
      refine TS.reg [] ?_ ?_
      · apply prop_of ?_ hq
        kernel_rfl
      refine XS.then ?_
      rcases bif_some h with ⟨c3, h⟩ | ⟨c4, h⟩
      · refine TS.cond (decide (i < (9 : Int))) ?_ (fun e => ?_) (fun e => by rw [c3] at e; cases e)
        · kernel_rfl
        refine TS.skip ?_
        refine XS.then ?_
        refine TS.seq ?_
        refine TS.block ?_
        refine TS.seq ?_
        refine TS.seq ?_
        obtain ⟨t5, h⟩ := test_some h
        obtain ⟨y_2, hx6, h⟩ := bind_some' h
        have hq : (True) ∧ ((True) ∧ ((inR i 9) ∧ ((i.toNat < 9 ∧ (True)) ∧ ((PureC Try.prog 66 [(.st (.cons (.int .i64 (b_Slots.getD i.toNat ((0 : Int), ((0 : Int), ((List.replicate 32 (0 : Int)), (List.replicate 32 (0 : Int)))))).1) (.cons (.int .i64 (b_Slots.getD i.toNat ((0 : Int), ((0 : Int), ((List.replicate 32 (0 : Int)), (List.replicate 32 (0 : Int)))))).2.1) (.cons (.arr 32 (.int .i64) (b_Slots.getD i.toNat ((0 : Int), ((0 : Int), ((List.replicate 32 (0 : Int)), (List.replicate 32 (0 : Int)))))).2.2.1) (.arr 32 (.int .i64) (b_Slots.getD i.toNat ((0 : Int), ((0 : Int), ((List.replicate 32 (0 : Int)), (List.replicate 32 (0 : Int)))))).2.2.2)))))] (.bool y_2) []) ∧ ((True) ∧ (True)))))) := ⟨trivial, ⟨trivial, ⟨inb_ok t5, ⟨⟨inR_lt (inb_ok t5), trivial⟩, ⟨F66_ok n ((b_Slots.getD i.toNat ((0 : Int), ((0 : Int), ((List.replicate 32 (0 : Int)), (List.replicate 32 (0 : Int)))))).1) ((b_Slots.getD i.toNat ((0 : Int), ((0 : Int), ((List.replicate 32 (0 : Int)), (List.replicate 32 (0 : Int)))))).2.1) ((b_Slots.getD i.toNat ((0 : Int), ((0 : Int), ((List.replicate 32 (0 : Int)), (List.replicate 32 (0 : Int)))))).2.2.1) ((b_Slots.getD i.toNat ((0 : Int), ((0 : Int), ((List.replicate 32 (0 : Int)), (List.replicate 32 (0 : Int)))))).2.2.2) y_2 hx6, ⟨trivial, trivial⟩⟩⟩⟩⟩⟩
        refine TS.reg [.none, .none, .none, .none, (.call (.bool y_2) [])] ?_ ?_
        · apply prop_of ?_ hq
          kernel_rfl
        refine XS.then ?_
        rcases bif_some h with ⟨c7, h⟩ | ⟨c8, h⟩
        · refine TS.cond (!y_2) ?_ (fun e => ?_) (fun e => by rw [c7] at e; cases e)
          · kernel_rfl
          refine TS.seq ?_
          have hq : (True) ∧ (True) := ⟨trivial, trivial⟩
          refine TS.reg [] ?_ ?_
          · apply prop_of ?_ hq
            kernel_rfl
          refine XS.then ?_
          refine TS.ret ?_
          refine XS.passR ?_
          refine XS.blockRet ?_
          refine XS.passR ?_
          refine XS.passR ?_
          refine XS.blockRet ?_
          refine XS.passR ?_
          obtain rfl : (4 : Int) = r := Option.some.inj h
          exact XS.fin [] ((True) ∧ (True)) (by kernel_rfl) ⟨trivial, trivial⟩
        · refine TS.cond (!y_2) ?_ (fun e => by rw [c8] at e; cases e) (fun e => ?_)
          · kernel_rfl
          refine TS.skip ?_
          refine XS.then ?_
          refine TS.seq ?_
          have hq : (True) ∧ (True) := ⟨trivial, trivial⟩
          refine TS.reg [] ?_ ?_
          · apply prop_of ?_ hq
            kernel_rfl
          refine XS.then ?_
          refine TS.block ?_
          refine TS.reLoop [0] (mkMask 44 [1, 3, 4]) (D := Int) (fun d => match d with | k => (mkTs 44 [(1, (.ptr 0 [])), (3, (.int .i64 i)), (4, (.int .i64 k))], [(.box 36 (.st (.arr 9 (.st (.pair (.int .i64) (.pair (.int .i64) (.pair (.arr 32 (.int .i64)) (.arr 32 (.int .i64)))))) b_Slots)))])) (fun n' d => loopF (F23_l8 n (loopF (F23_l7 n b_Slots) n7) b_Slots i) n' d = some r) n (1 : Int) h ?_ (fun d => loopF_zero _ d r) ?_
          · kernel_rfl
          · rintro n8 k h
            replace h : (bif (decide (k < i)) then (bif ((b_Slots.getD i.toNat ((0 : Int), ((0 : Int), ((List.replicate 32 (0 : Int)), (List.replicate 32 (0 : Int)))))).2.1 != (0 : Int)) then (bif inb k 9 then (bif ((b_Slots.getD i.toNat ((0 : Int), ((0 : Int), ((List.replicate 32 (0 : Int)), (List.replicate 32 (0 : Int)))))).2.1 == (b_Slots.getD k.toNat ((0 : Int), ((0 : Int), ((List.replicate 32 (0 : Int)), (List.replicate 32 (0 : Int)))))).2.1) then (some (4 : Int)) else ((loopF (F23_l8 n (loopF (F23_l7 n b_Slots) n7) b_Slots i) n8) (IntKind.wrap .i64 (k + (1 : Int))))) else none) else ((loopF (F23_l8 n (loopF (F23_l7 n b_Slots) n7) b_Slots i) n8) (IntKind.wrap .i64 (k + (1 : Int))))) else ((loopF (F23_l7 n b_Slots) n7) (IntKind.wrap .i64 (i + (1 : Int))))) = some r := h
            refine TS.seq ?_
            refine TS.seq ?_
            have hq : (True) ∧ ((True) ∧ ((True) ∧ (True))) := ⟨trivial, ⟨trivial, ⟨trivial, trivial⟩⟩⟩
            refine TS.reg [] ?_ ?_
            · apply prop_of ?_ hq
              kernel_rfl
            refine XS.then ?_
            rcases bif_some h with ⟨c9, h⟩ | ⟨c10, h⟩
            · refine TS.cond (decide (k < i)) ?_ (fun e => ?_) (fun e => by rw [c9] at e; cases e)
              · kernel_rfl
              refine TS.skip ?_
              refine XS.then ?_
              refine TS.seq ?_
              refine TS.block ?_
              refine TS.seq ?_
              rcases bif_some h with ⟨c11, h⟩ | ⟨c12, h⟩
              · obtain ⟨t13, h⟩ := test_some h
                have hq : ((True) ∧ ((True) ∧ ((inR i 9) ∧ ((True) ∧ ((i.toNat < 9 ∧ (True)) ∧ ((True) ∧ (((True) ∧ ((b_Slots.getD i.toNat ((0 : Int), ((0 : Int), ((List.replicate 32 (0 : Int)), (List.replicate 32 (0 : Int)))))).2.1 != (0 : Int)) = true) ∧ ((True) ∧ ((True) ∧ ((inR i 9) ∧ ((True) ∧ ((i.toNat < 9 ∧ (True)) ∧ ((True) ∧ ((True) ∧ ((inR k 9) ∧ ((True) ∧ ((k.toNat < 9 ∧ (True)) ∧ ((True) ∧ ((True) ∧ (True)))))))))))))))))))) ∧ (True) := ⟨⟨trivial, ⟨trivial, ⟨inb_ok t5, ⟨trivial, ⟨⟨inR_lt (inb_ok t5), trivial⟩, ⟨trivial, ⟨⟨trivial, c11⟩, ⟨trivial, ⟨trivial, ⟨inb_ok t5, ⟨trivial, ⟨⟨inR_lt (inb_ok t5), trivial⟩, ⟨trivial, ⟨trivial, ⟨inb_ok t13, ⟨trivial, ⟨⟨inR_lt (inb_ok t13), trivial⟩, ⟨trivial, ⟨trivial, trivial⟩⟩⟩⟩⟩⟩⟩⟩⟩⟩⟩⟩⟩⟩⟩⟩⟩⟩⟩, trivial⟩
                refine TS.draw 19 [] [.none, .none, .none, .none, .none, .none, .dec true] (by kernel_rfl) ?_ ?_
                · apply prop_of ?_ hq
                  kernel_rfl
                refine XS.then ?_
                rcases bif_some h with ⟨c14, h⟩ | ⟨c15, h⟩
                · refine TS.cond ((b_Slots.getD i.toNat ((0 : Int), ((0 : Int), ((List.replicate 32 (0 : Int)), (List.replicate 32 (0 : Int)))))).2.1 == (b_Slots.getD k.toNat ((0 : Int), ((0 : Int), ((List.replicate 32 (0 : Int)), (List.replicate 32 (0 : Int)))))).2.1) ?_ (fun e => ?_) (fun e => by rw [c14] at e; cases e)
                  · kernel_rfl
                  refine TS.seq ?_
                  have hq : (True) ∧ (True) := ⟨trivial, trivial⟩
                  refine TS.reg [] ?_ ?_
                  · apply prop_of ?_ hq
                    kernel_rfl
                  refine XS.then ?_
                  refine TS.ret ?_
                  refine XS.blockRet ?_
                  refine XS.passR ?_
                  refine XS.passR ?_
                  refine XS.blockRet ?_
                  refine XS.blockRet ?_
                  refine XS.passR ?_
                  refine XS.passR ?_
                  refine XS.blockRet ?_
                  refine XS.passR ?_
                  obtain rfl : (4 : Int) = r := Option.some.inj h
                  exact XS.fin [] ((True) ∧ (True)) (by kernel_rfl) ⟨trivial, trivial⟩
                · refine TS.cond ((b_Slots.getD i.toNat ((0 : Int), ((0 : Int), ((List.replicate 32 (0 : Int)), (List.replicate 32 (0 : Int)))))).2.1 == (b_Slots.getD k.toNat ((0 : Int), ((0 : Int), ((List.replicate 32 (0 : Int)), (List.replicate 32 (0 : Int)))))).2.1) ?_ (fun e => by rw [c15] at e; cases e) (fun e => ?_)
                  · kernel_rfl
                  refine TS.skip ?_
                  refine XS.blockEnd ?_
                  refine XS.then ?_
                  have hq : (True) ∧ ((True) ∧ ((True) ∧ (True))) := ⟨trivial, ⟨trivial, ⟨trivial, trivial⟩⟩⟩
                  refine TS.reg [] ?_ ?_
                  · apply prop_of ?_ hq
                    kernel_rfl
                  refine XS.reAny [0] (mkMask 44 [1, 3, 4]) (IntKind.wrap .i64 (k + (1 : Int))) h ?_
                  kernel_rfl
              · have hq : ((True) ∧ ((True) ∧ ((inR i 9) ∧ ((True) ∧ ((i.toNat < 9 ∧ (True)) ∧ ((True) ∧ (((True) ∧ ((b_Slots.getD i.toNat ((0 : Int), ((0 : Int), ((List.replicate 32 (0 : Int)), (List.replicate 32 (0 : Int)))))).2.1 != (0 : Int)) = false) ∧ ((True) ∧ (True))))))))) ∧ (True) := ⟨⟨trivial, ⟨trivial, ⟨inb_ok t5, ⟨trivial, ⟨⟨inR_lt (inb_ok t5), trivial⟩, ⟨trivial, ⟨⟨trivial, c12⟩, ⟨trivial, trivial⟩⟩⟩⟩⟩⟩⟩⟩, trivial⟩
                refine TS.draw 19 [] [.none, .none, .none, .none, .none, .none, .dec false] (by kernel_rfl) ?_ ?_
                · apply prop_of ?_ hq
                  kernel_rfl
                refine XS.then ?_
                refine TS.no ?_ ?_
                · kernel_rfl
                refine TS.skip ?_
                refine XS.blockEnd ?_
                refine XS.then ?_
                have hq : (True) ∧ ((True) ∧ ((True) ∧ (True))) := ⟨trivial, ⟨trivial, ⟨trivial, trivial⟩⟩⟩
                refine TS.reg [] ?_ ?_
                · apply prop_of ?_ hq
                  kernel_rfl
                refine XS.reAny [0] (mkMask 44 [1, 3, 4]) (IntKind.wrap .i64 (k + (1 : Int))) h ?_
                kernel_rfl
            · refine TS.cond (decide (k < i)) ?_ (fun e => by rw [c10] at e; cases e) (fun e => ?_)
              · kernel_rfl
              refine TS.exit ?_
              refine XS.passE ?_
              refine XS.passE ?_
              refine XS.out ?_
              refine XS.blockEnd ?_
              refine XS.then ?_
              have hq : (True) ∧ ((True) ∧ ((True) ∧ (True))) := ⟨trivial, ⟨trivial, ⟨trivial, trivial⟩⟩⟩
              refine TS.reg [] ?_ ?_
              · apply prop_of ?_ hq
                kernel_rfl
              refine XS.reAny [0] (mkMask 44 [1, 3]) (IntKind.wrap .i64 (i + (1 : Int))) h ?_
              kernel_rfl
      · refine TS.cond (decide (i < (9 : Int))) ?_ (fun e => by rw [c4] at e; cases e) (fun e => ?_)
        · kernel_rfl
        refine TS.exit ?_
        refine XS.passE ?_
        refine XS.passE ?_
        refine XS.out ?_
        refine XS.then ?_
        refine TS.seq ?_
        have hq : (True) ∧ (True) := ⟨trivial, trivial⟩
        refine TS.reg [] ?_ ?_
        · apply prop_of ?_ hq
          kernel_rfl
        refine XS.then ?_
        refine TS.ret ?_
        obtain rfl : (0 : Int) = r := Option.some.inj h
        exact XS.fin [] ((True) ∧ (True)) (by kernel_rfl) ⟨trivial, trivial⟩

/-! plugtree/slots.Do -/
def F21_j48 (n : Nat) : (Int × Int × (List (Int × Int × (List Int) × List Int))) → Option ((List (Int × Int × (List Int) × List Int)) × Int × Int)
  | (x, x_2, m1) => (some (m1, x, x_2))
def F21_l49 (n : Nat) (b_Slots : List (Int × Int × (List Int) × List Int)) (k21_49 : Int → Option ((List (Int × Int × (List Int) × List Int)) × Int × Int)) : Int → Option ((List (Int × Int × (List Int) × List Int)) × Int × Int)
  | x_3 => (bif (decide (x_3 < (9 : Int))) then (bif inb x_3 9 then (bif ((b_Slots.getD x_3.toNat ((0 : Int), ((0 : Int), ((List.replicate 32 (0 : Int)), (List.replicate 32 (0 : Int)))))).1 == (0 : Int)) then (F21_j48 n ((1 : Int), x_3, (b_Slots.set x_3.toNat ((1 : Int), ((b_Slots.getD x_3.toNat ((0 : Int), ((0 : Int), ((List.replicate 32 (0 : Int)), (List.replicate 32 (0 : Int)))))).2.1, ((b_Slots.getD x_3.toNat ((0 : Int), ((0 : Int), ((List.replicate 32 (0 : Int)), (List.replicate 32 (0 : Int)))))).2.2.1, (b_Slots.getD x_3.toNat ((0 : Int), ((0 : Int), ((List.replicate 32 (0 : Int)), (List.replicate 32 (0 : Int)))))).2.2.2)))))) else (k21_49 (IntKind.wrap .i64 (x_3 + (1 : Int))))) else none) else (F21_j48 n ((9 : Int), (0 : Int), b_Slots)))
def F21_j72 (n : Nat) (c_Slot : Int) (code : Int) : (List (Int × Int × (List Int) × List Int)) → Option ((List (Int × Int × (List Int) × List Int)) × Int × Int)
  | m2 => (some (m2, code, c_Slot))
def F21_j71 (n : Nat) (b_Slots : List (Int × Int × (List Int) × List Int)) (c_Slot : Int) : (Int × (List (Int × Int × (List Int) × List Int))) → Option ((List (Int × Int × (List Int) × List Int)) × Int × Int)
  | (code, m3) => (bif (code != (1 : Int)) then (F21_j72 n c_Slot code b_Slots) else (F21_j72 n c_Slot code m3))
def F21_l80 (n : Nat) (k21_79 : (Int × Bool) → Option ((List (Int × Int × (List Int) × List Int)) × Int × Int)) (b_Slots : List (Int × Int × (List Int) × List Int)) (k21_80 : (Int × Bool × Int) → Option ((List (Int × Int × (List Int) × List Int)) × Int × Int)) : (Int × Bool × Int) → Option ((List (Int × Int × (List Int) × List Int)) × Int × Int)
  | (x_7, x_8, x_9) => (bif (decide (x_9 < (9 : Int))) then (bif inb x_9 9 then (bif ((b_Slots.getD x_9.toNat ((0 : Int), ((0 : Int), ((List.replicate 32 (0 : Int)), (List.replicate 32 (0 : Int)))))).2.1 == x_7) then (k21_80 ((IntKind.wrap .i64 (x_7 + (1 : Int))), true, (IntKind.wrap .i64 (x_9 + (1 : Int))))) else (k21_80 (x_7, x_8, (IntKind.wrap .i64 (x_9 + (1 : Int)))))) else none) else (k21_79 (x_7, x_8)))
def F21_l79 (n : Nat) (b_Slots : List (Int × Int × (List Int) × List Int)) (c_Slot : Int) (k21_79 : (Int × Bool) → Option ((List (Int × Int × (List Int) × List Int)) × Int × Int)) : (Int × Bool) → Option ((List (Int × Int × (List Int) × List Int)) × Int × Int)
  | (x_5, x_6) => (bif x_6 then (loopF (F21_l80 n k21_79 b_Slots) n (x_5, false, (0 : Int))) else (F21_j71 n b_Slots c_Slot ((1 : Int), (((b_Slots.set c_Slot.toNat ((2 : Int), ((b_Slots.getD c_Slot.toNat ((0 : Int), ((0 : Int), ((List.replicate 32 (0 : Int)), (List.replicate 32 (0 : Int)))))).2.1, ((b_Slots.getD c_Slot.toNat ((0 : Int), ((0 : Int), ((List.replicate 32 (0 : Int)), (List.replicate 32 (0 : Int)))))).2.2.1, (b_Slots.getD c_Slot.toNat ((0 : Int), ((0 : Int), ((List.replicate 32 (0 : Int)), (List.replicate 32 (0 : Int)))))).2.2.2)))).set c_Slot.toNat (((b_Slots.set c_Slot.toNat ((2 : Int), ((b_Slots.getD c_Slot.toNat ((0 : Int), ((0 : Int), ((List.replicate 32 (0 : Int)), (List.replicate 32 (0 : Int)))))).2.1, ((b_Slots.getD c_Slot.toNat ((0 : Int), ((0 : Int), ((List.replicate 32 (0 : Int)), (List.replicate 32 (0 : Int)))))).2.2.1, (b_Slots.getD c_Slot.toNat ((0 : Int), ((0 : Int), ((List.replicate 32 (0 : Int)), (List.replicate 32 (0 : Int)))))).2.2.2)))).getD c_Slot.toNat ((0 : Int), ((0 : Int), ((List.replicate 32 (0 : Int)), (List.replicate 32 (0 : Int)))))).1, (x_5, (((b_Slots.set c_Slot.toNat ((2 : Int), ((b_Slots.getD c_Slot.toNat ((0 : Int), ((0 : Int), ((List.replicate 32 (0 : Int)), (List.replicate 32 (0 : Int)))))).2.1, ((b_Slots.getD c_Slot.toNat ((0 : Int), ((0 : Int), ((List.replicate 32 (0 : Int)), (List.replicate 32 (0 : Int)))))).2.2.1, (b_Slots.getD c_Slot.toNat ((0 : Int), ((0 : Int), ((List.replicate 32 (0 : Int)), (List.replicate 32 (0 : Int)))))).2.2.2)))).getD c_Slot.toNat ((0 : Int), ((0 : Int), ((List.replicate 32 (0 : Int)), (List.replicate 32 (0 : Int)))))).2.2.1, ((b_Slots.set c_Slot.toNat ((2 : Int), ((b_Slots.getD c_Slot.toNat ((0 : Int), ((0 : Int), ((List.replicate 32 (0 : Int)), (List.replicate 32 (0 : Int)))))).2.1, ((b_Slots.getD c_Slot.toNat ((0 : Int), ((0 : Int), ((List.replicate 32 (0 : Int)), (List.replicate 32 (0 : Int)))))).2.2.1, (b_Slots.getD c_Slot.toNat ((0 : Int), ((0 : Int), ((List.replicate 32 (0 : Int)), (List.replicate 32 (0 : Int)))))).2.2.2)))).getD c_Slot.toNat ((0 : Int), ((0 : Int), ((List.replicate 32 (0 : Int)), (List.replicate 32 (0 : Int)))))).2.2.2)))).set c_Slot.toNat ((((b_Slots.set c_Slot.toNat ((2 : Int), ((b_Slots.getD c_Slot.toNat ((0 : Int), ((0 : Int), ((List.replicate 32 (0 : Int)), (List.replicate 32 (0 : Int)))))).2.1, ((b_Slots.getD c_Slot.toNat ((0 : Int), ((0 : Int), ((List.replicate 32 (0 : Int)), (List.replicate 32 (0 : Int)))))).2.2.1, (b_Slots.getD c_Slot.toNat ((0 : Int), ((0 : Int), ((List.replicate 32 (0 : Int)), (List.replicate 32 (0 : Int)))))).2.2.2)))).set c_Slot.toNat (((b_Slots.set c_Slot.toNat ((2 : Int), ((b_Slots.getD c_Slot.toNat ((0 : Int), ((0 : Int), ((List.replicate 32 (0 : Int)), (List.replicate 32 (0 : Int)))))).2.1, ((b_Slots.getD c_Slot.toNat ((0 : Int), ((0 : Int), ((List.replicate 32 (0 : Int)), (List.replicate 32 (0 : Int)))))).2.2.1, (b_Slots.getD c_Slot.toNat ((0 : Int), ((0 : Int), ((List.replicate 32 (0 : Int)), (List.replicate 32 (0 : Int)))))).2.2.2)))).getD c_Slot.toNat ((0 : Int), ((0 : Int), ((List.replicate 32 (0 : Int)), (List.replicate 32 (0 : Int)))))).1, (x_5, (((b_Slots.set c_Slot.toNat ((2 : Int), ((b_Slots.getD c_Slot.toNat ((0 : Int), ((0 : Int), ((List.replicate 32 (0 : Int)), (List.replicate 32 (0 : Int)))))).2.1, ((b_Slots.getD c_Slot.toNat ((0 : Int), ((0 : Int), ((List.replicate 32 (0 : Int)), (List.replicate 32 (0 : Int)))))).2.2.1, (b_Slots.getD c_Slot.toNat ((0 : Int), ((0 : Int), ((List.replicate 32 (0 : Int)), (List.replicate 32 (0 : Int)))))).2.2.2)))).getD c_Slot.toNat ((0 : Int), ((0 : Int), ((List.replicate 32 (0 : Int)), (List.replicate 32 (0 : Int)))))).2.2.1, ((b_Slots.set c_Slot.toNat ((2 : Int), ((b_Slots.getD c_Slot.toNat ((0 : Int), ((0 : Int), ((List.replicate 32 (0 : Int)), (List.replicate 32 (0 : Int)))))).2.1, ((b_Slots.getD c_Slot.toNat ((0 : Int), ((0 : Int), ((List.replicate 32 (0 : Int)), (List.replicate 32 (0 : Int)))))).2.2.1, (b_Slots.getD c_Slot.toNat ((0 : Int), ((0 : Int), ((List.replicate 32 (0 : Int)), (List.replicate 32 (0 : Int)))))).2.2.2)))).getD c_Slot.toNat ((0 : Int), ((0 : Int), ((List.replicate 32 (0 : Int)), (List.replicate 32 (0 : Int)))))).2.2.2)))).getD c_Slot.toNat ((0 : Int), ((0 : Int), ((List.replicate 32 (0 : Int)), (List.replicate 32 (0 : Int)))))).1, ((((b_Slots.set c_Slot.toNat ((2 : Int), ((b_Slots.getD c_Slot.toNat ((0 : Int), ((0 : Int), ((List.replicate 32 (0 : Int)), (List.replicate 32 (0 : Int)))))).2.1, ((b_Slots.getD c_Slot.toNat ((0 : Int), ((0 : Int), ((List.replicate 32 (0 : Int)), (List.replicate 32 (0 : Int)))))).2.2.1, (b_Slots.getD c_Slot.toNat ((0 : Int), ((0 : Int), ((List.replicate 32 (0 : Int)), (List.replicate 32 (0 : Int)))))).2.2.2)))).set c_Slot.toNat (((b_Slots.set c_Slot.toNat ((2 : Int), ((b_Slots.getD c_Slot.toNat ((0 : Int), ((0 : Int), ((List.replicate 32 (0 : Int)), (List.replicate 32 (0 : Int)))))).2.1, ((b_Slots.getD c_Slot.toNat ((0 : Int), ((0 : Int), ((List.replicate 32 (0 : Int)), (List.replicate 32 (0 : Int)))))).2.2.1, (b_Slots.getD c_Slot.toNat ((0 : Int), ((0 : Int), ((List.replicate 32 (0 : Int)), (List.replicate 32 (0 : Int)))))).2.2.2)))).getD c_Slot.toNat ((0 : Int), ((0 : Int), ((List.replicate 32 (0 : Int)), (List.replicate 32 (0 : Int)))))).1, (x_5, (((b_Slots.set c_Slot.toNat ((2 : Int), ((b_Slots.getD c_Slot.toNat ((0 : Int), ((0 : Int), ((List.replicate 32 (0 : Int)), (List.replicate 32 (0 : Int)))))).2.1, ((b_Slots.getD c_Slot.toNat ((0 : Int), ((0 : Int), ((List.replicate 32 (0 : Int)), (List.replicate 32 (0 : Int)))))).2.2.1, (b_Slots.getD c_Slot.toNat ((0 : Int), ((0 : Int), ((List.replicate 32 (0 : Int)), (List.replicate 32 (0 : Int)))))).2.2.2)))).getD c_Slot.toNat ((0 : Int), ((0 : Int), ((List.replicate 32 (0 : Int)), (List.replicate 32 (0 : Int)))))).2.2.1, ((b_Slots.set c_Slot.toNat ((2 : Int), ((b_Slots.getD c_Slot.toNat ((0 : Int), ((0 : Int), ((List.replicate 32 (0 : Int)), (List.replicate 32 (0 : Int)))))).2.1, ((b_Slots.getD c_Slot.toNat ((0 : Int), ((0 : Int), ((List.replicate 32 (0 : Int)), (List.replicate 32 (0 : Int)))))).2.2.1, (b_Slots.getD c_Slot.toNat ((0 : Int), ((0 : Int), ((List.replicate 32 (0 : Int)), (List.replicate 32 (0 : Int)))))).2.2.2)))).getD c_Slot.toNat ((0 : Int), ((0 : Int), ((List.replicate 32 (0 : Int)), (List.replicate 32 (0 : Int)))))).2.2.2)))).getD c_Slot.toNat ((0 : Int), ((0 : Int), ((List.replicate 32 (0 : Int)), (List.replicate 32 (0 : Int)))))).2.1, ((((((b_Slots.set c_Slot.toNat ((2 : Int), ((b_Slots.getD c_Slot.toNat ((0 : Int), ((0 : Int), ((List.replicate 32 (0 : Int)), (List.replicate 32 (0 : Int)))))).2.1, ((b_Slots.getD c_Slot.toNat ((0 : Int), ((0 : Int), ((List.replicate 32 (0 : Int)), (List.replicate 32 (0 : Int)))))).2.2.1, (b_Slots.getD c_Slot.toNat ((0 : Int), ((0 : Int), ((List.replicate 32 (0 : Int)), (List.replicate 32 (0 : Int)))))).2.2.2)))).set c_Slot.toNat (((b_Slots.set c_Slot.toNat ((2 : Int), ((b_Slots.getD c_Slot.toNat ((0 : Int), ((0 : Int), ((List.replicate 32 (0 : Int)), (List.replicate 32 (0 : Int)))))).2.1, ((b_Slots.getD c_Slot.toNat ((0 : Int), ((0 : Int), ((List.replicate 32 (0 : Int)), (List.replicate 32 (0 : Int)))))).2.2.1, (b_Slots.getD c_Slot.toNat ((0 : Int), ((0 : Int), ((List.replicate 32 (0 : Int)), (List.replicate 32 (0 : Int)))))).2.2.2)))).getD c_Slot.toNat ((0 : Int), ((0 : Int), ((List.replicate 32 (0 : Int)), (List.replicate 32 (0 : Int)))))).1, (x_5, (((b_Slots.set c_Slot.toNat ((2 : Int), ((b_Slots.getD c_Slot.toNat ((0 : Int), ((0 : Int), ((List.replicate 32 (0 : Int)), (List.replicate 32 (0 : Int)))))).2.1, ((b_Slots.getD c_Slot.toNat ((0 : Int), ((0 : Int), ((List.replicate 32 (0 : Int)), (List.replicate 32 (0 : Int)))))).2.2.1, (b_Slots.getD c_Slot.toNat ((0 : Int), ((0 : Int), ((List.replicate 32 (0 : Int)), (List.replicate 32 (0 : Int)))))).2.2.2)))).getD c_Slot.toNat ((0 : Int), ((0 : Int), ((List.replicate 32 (0 : Int)), (List.replicate 32 (0 : Int)))))).2.2.1, ((b_Slots.set c_Slot.toNat ((2 : Int), ((b_Slots.getD c_Slot.toNat ((0 : Int), ((0 : Int), ((List.replicate 32 (0 : Int)), (List.replicate 32 (0 : Int)))))).2.1, ((b_Slots.getD c_Slot.toNat ((0 : Int), ((0 : Int), ((List.replicate 32 (0 : Int)), (List.replicate 32 (0 : Int)))))).2.2.1, (b_Slots.getD c_Slot.toNat ((0 : Int), ((0 : Int), ((List.replicate 32 (0 : Int)), (List.replicate 32 (0 : Int)))))).2.2.2)))).getD c_Slot.toNat ((0 : Int), ((0 : Int), ((List.replicate 32 (0 : Int)), (List.replicate 32 (0 : Int)))))).2.2.2)))).getD c_Slot.toNat ((0 : Int), ((0 : Int), ((List.replicate 32 (0 : Int)), (List.replicate 32 (0 : Int)))))).2.2.1).set 1 (1 : Int)), (((b_Slots.set c_Slot.toNat ((2 : Int), ((b_Slots.getD c_Slot.toNat ((0 : Int), ((0 : Int), ((List.replicate 32 (0 : Int)), (List.replicate 32 (0 : Int)))))).2.1, ((b_Slots.getD c_Slot.toNat ((0 : Int), ((0 : Int), ((List.replicate 32 (0 : Int)), (List.replicate 32 (0 : Int)))))).2.2.1, (b_Slots.getD c_Slot.toNat ((0 : Int), ((0 : Int), ((List.replicate 32 (0 : Int)), (List.replicate 32 (0 : Int)))))).2.2.2)))).set c_Slot.toNat (((b_Slots.set c_Slot.toNat ((2 : Int), ((b_Slots.getD c_Slot.toNat ((0 : Int), ((0 : Int), ((List.replicate 32 (0 : Int)), (List.replicate 32 (0 : Int)))))).2.1, ((b_Slots.getD c_Slot.toNat ((0 : Int), ((0 : Int), ((List.replicate 32 (0 : Int)), (List.replicate 32 (0 : Int)))))).2.2.1, (b_Slots.getD c_Slot.toNat ((0 : Int), ((0 : Int), ((List.replicate 32 (0 : Int)), (List.replicate 32 (0 : Int)))))).2.2.2)))).getD c_Slot.toNat ((0 : Int), ((0 : Int), ((List.replicate 32 (0 : Int)), (List.replicate 32 (0 : Int)))))).1, (x_5, (((b_Slots.set c_Slot.toNat ((2 : Int), ((b_Slots.getD c_Slot.toNat ((0 : Int), ((0 : Int), ((List.replicate 32 (0 : Int)), (List.replicate 32 (0 : Int)))))).2.1, ((b_Slots.getD c_Slot.toNat ((0 : Int), ((0 : Int), ((List.replicate 32 (0 : Int)), (List.replicate 32 (0 : Int)))))).2.2.1, (b_Slots.getD c_Slot.toNat ((0 : Int), ((0 : Int), ((List.replicate 32 (0 : Int)), (List.replicate 32 (0 : Int)))))).2.2.2)))).getD c_Slot.toNat ((0 : Int), ((0 : Int), ((List.replicate 32 (0 : Int)), (List.replicate 32 (0 : Int)))))).2.2.1, ((b_Slots.set c_Slot.toNat ((2 : Int), ((b_Slots.getD c_Slot.toNat ((0 : Int), ((0 : Int), ((List.replicate 32 (0 : Int)), (List.replicate 32 (0 : Int)))))).2.1, ((b_Slots.getD c_Slot.toNat ((0 : Int), ((0 : Int), ((List.replicate 32 (0 : Int)), (List.replicate 32 (0 : Int)))))).2.2.1, (b_Slots.getD c_Slot.toNat ((0 : Int), ((0 : Int), ((List.replicate 32 (0 : Int)), (List.replicate 32 (0 : Int)))))).2.2.2)))).getD c_Slot.toNat ((0 : Int), ((0 : Int), ((List.replicate 32 (0 : Int)), (List.replicate 32 (0 : Int)))))).2.2.2)))).getD c_Slot.toNat ((0 : Int), ((0 : Int), ((List.replicate 32 (0 : Int)), (List.replicate 32 (0 : Int)))))).2.2.2)))))))
def F21_l84 (n : Nat) (b_Slots : List (Int × Int × (List Int) × List Int)) (c_Slot : Int) (c_Arg : Int) (k21_84 : (Int × (List (Int × Int × (List Int) × List Int))) → Option ((List (Int × Int × (List Int) × List Int)) × Int × Int)) : (Int × (List (Int × Int × (List Int) × List Int))) → Option ((List (Int × Int × (List Int) × List Int)) × Int × Int)
  | (x_10, m4) => (bif (decide (x_10 < (32 : Int))) then (bif (decide (0 ≤ (IntKind.wrap .u64 (x_10)))) then (bif (!((bitsI .and .i64 (shrI .i64 c_Arg (IntKind.wrap .u64 (x_10))) (1 : Int)) == (1 : Int))) then (bif inb x_10 32 then (k21_84 ((IntKind.wrap .i64 (x_10 + (1 : Int))), ((m4.set c_Slot.toNat ((m4.getD c_Slot.toNat ((0 : Int), ((0 : Int), ((List.replicate 32 (0 : Int)), (List.replicate 32 (0 : Int)))))).1, ((m4.getD c_Slot.toNat ((0 : Int), ((0 : Int), ((List.replicate 32 (0 : Int)), (List.replicate 32 (0 : Int)))))).2.1, ((((m4.getD c_Slot.toNat ((0 : Int), ((0 : Int), ((List.replicate 32 (0 : Int)), (List.replicate 32 (0 : Int)))))).2.2.1).set x_10.toNat (0 : Int)), (m4.getD c_Slot.toNat ((0 : Int), ((0 : Int), ((List.replicate 32 (0 : Int)), (List.replicate 32 (0 : Int)))))).2.2.2)))).set c_Slot.toNat (((m4.set c_Slot.toNat ((m4.getD c_Slot.toNat ((0 : Int), ((0 : Int), ((List.replicate 32 (0 : Int)), (List.replicate 32 (0 : Int)))))).1, ((m4.getD c_Slot.toNat ((0 : Int), ((0 : Int), ((List.replicate 32 (0 : Int)), (List.replicate 32 (0 : Int)))))).2.1, ((((m4.getD c_Slot.toNat ((0 : Int), ((0 : Int), ((List.replicate 32 (0 : Int)), (List.replicate 32 (0 : Int)))))).2.2.1).set x_10.toNat (0 : Int)), (m4.getD c_Slot.toNat ((0 : Int), ((0 : Int), ((List.replicate 32 (0 : Int)), (List.replicate 32 (0 : Int)))))).2.2.2)))).getD c_Slot.toNat ((0 : Int), ((0 : Int), ((List.replicate 32 (0 : Int)), (List.replicate 32 (0 : Int)))))).1, (((m4.set c_Slot.toNat ((m4.getD c_Slot.toNat ((0 : Int), ((0 : Int), ((List.replicate 32 (0 : Int)), (List.replicate 32 (0 : Int)))))).1, ((m4.getD c_Slot.toNat ((0 : Int), ((0 : Int), ((List.replicate 32 (0 : Int)), (List.replicate 32 (0 : Int)))))).2.1, ((((m4.getD c_Slot.toNat ((0 : Int), ((0 : Int), ((List.replicate 32 (0 : Int)), (List.replicate 32 (0 : Int)))))).2.2.1).set x_10.toNat (0 : Int)), (m4.getD c_Slot.toNat ((0 : Int), ((0 : Int), ((List.replicate 32 (0 : Int)), (List.replicate 32 (0 : Int)))))).2.2.2)))).getD c_Slot.toNat ((0 : Int), ((0 : Int), ((List.replicate 32 (0 : Int)), (List.replicate 32 (0 : Int)))))).2.1, (((m4.set c_Slot.toNat ((m4.getD c_Slot.toNat ((0 : Int), ((0 : Int), ((List.replicate 32 (0 : Int)), (List.replicate 32 (0 : Int)))))).1, ((m4.getD c_Slot.toNat ((0 : Int), ((0 : Int), ((List.replicate 32 (0 : Int)), (List.replicate 32 (0 : Int)))))).2.1, ((((m4.getD c_Slot.toNat ((0 : Int), ((0 : Int), ((List.replicate 32 (0 : Int)), (List.replicate 32 (0 : Int)))))).2.2.1).set x_10.toNat (0 : Int)), (m4.getD c_Slot.toNat ((0 : Int), ((0 : Int), ((List.replicate 32 (0 : Int)), (List.replicate 32 (0 : Int)))))).2.2.2)))).getD c_Slot.toNat ((0 : Int), ((0 : Int), ((List.replicate 32 (0 : Int)), (List.replicate 32 (0 : Int)))))).2.2.1, ((((m4.set c_Slot.toNat ((m4.getD c_Slot.toNat ((0 : Int), ((0 : Int), ((List.replicate 32 (0 : Int)), (List.replicate 32 (0 : Int)))))).1, ((m4.getD c_Slot.toNat ((0 : Int), ((0 : Int), ((List.replicate 32 (0 : Int)), (List.replicate 32 (0 : Int)))))).2.1, ((((m4.getD c_Slot.toNat ((0 : Int), ((0 : Int), ((List.replicate 32 (0 : Int)), (List.replicate 32 (0 : Int)))))).2.2.1).set x_10.toNat (0 : Int)), (m4.getD c_Slot.toNat ((0 : Int), ((0 : Int), ((List.replicate 32 (0 : Int)), (List.replicate 32 (0 : Int)))))).2.2.2)))).getD c_Slot.toNat ((0 : Int), ((0 : Int), ((List.replicate 32 (0 : Int)), (List.replicate 32 (0 : Int)))))).2.2.2).set x_10.toNat (0 : Int)))))))) else none) else (bif inb x_10 32 then (bif ((((m4.getD c_Slot.toNat ((0 : Int), ((0 : Int), ((List.replicate 32 (0 : Int)), (List.replicate 32 (0 : Int)))))).2.2.1).getD x_10.toNat (0 : Int)) == (0 : Int)) then (k21_84 ((IntKind.wrap .i64 (x_10 + (1 : Int))), (m4.set c_Slot.toNat ((m4.getD c_Slot.toNat ((0 : Int), ((0 : Int), ((List.replicate 32 (0 : Int)), (List.replicate 32 (0 : Int)))))).1, ((m4.getD c_Slot.toNat ((0 : Int), ((0 : Int), ((List.replicate 32 (0 : Int)), (List.replicate 32 (0 : Int)))))).2.1, ((((m4.getD c_Slot.toNat ((0 : Int), ((0 : Int), ((List.replicate 32 (0 : Int)), (List.replicate 32 (0 : Int)))))).2.2.1).set x_10.toNat (1 : Int)), (m4.getD c_Slot.toNat ((0 : Int), ((0 : Int), ((List.replicate 32 (0 : Int)), (List.replicate 32 (0 : Int)))))).2.2.2)))))) else (k21_84 ((IntKind.wrap .i64 (x_10 + (1 : Int))), m4))) else none)) else none) else (bif (c_Arg == (0 : Int)) then (F21_j71 n b_Slots c_Slot ((1 : Int), ((m4.set c_Slot.toNat ((3 : Int), ((m4.getD c_Slot.toNat ((0 : Int), ((0 : Int), ((List.replicate 32 (0 : Int)), (List.replicate 32 (0 : Int)))))).2.1, ((m4.getD c_Slot.toNat ((0 : Int), ((0 : Int), ((List.replicate 32 (0 : Int)), (List.replicate 32 (0 : Int)))))).2.2.1, (m4.getD c_Slot.toNat ((0 : Int), ((0 : Int), ((List.replicate 32 (0 : Int)), (List.replicate 32 (0 : Int)))))).2.2.2)))).set c_Slot.toNat ((2 : Int), (((m4.set c_Slot.toNat ((3 : Int), ((m4.getD c_Slot.toNat ((0 : Int), ((0 : Int), ((List.replicate 32 (0 : Int)), (List.replicate 32 (0 : Int)))))).2.1, ((m4.getD c_Slot.toNat ((0 : Int), ((0 : Int), ((List.replicate 32 (0 : Int)), (List.replicate 32 (0 : Int)))))).2.2.1, (m4.getD c_Slot.toNat ((0 : Int), ((0 : Int), ((List.replicate 32 (0 : Int)), (List.replicate 32 (0 : Int)))))).2.2.2)))).getD c_Slot.toNat ((0 : Int), ((0 : Int), ((List.replicate 32 (0 : Int)), (List.replicate 32 (0 : Int)))))).2.1, (((m4.set c_Slot.toNat ((3 : Int), ((m4.getD c_Slot.toNat ((0 : Int), ((0 : Int), ((List.replicate 32 (0 : Int)), (List.replicate 32 (0 : Int)))))).2.1, ((m4.getD c_Slot.toNat ((0 : Int), ((0 : Int), ((List.replicate 32 (0 : Int)), (List.replicate 32 (0 : Int)))))).2.2.1, (m4.getD c_Slot.toNat ((0 : Int), ((0 : Int), ((List.replicate 32 (0 : Int)), (List.replicate 32 (0 : Int)))))).2.2.2)))).getD c_Slot.toNat ((0 : Int), ((0 : Int), ((List.replicate 32 (0 : Int)), (List.replicate 32 (0 : Int)))))).2.2.1, ((m4.set c_Slot.toNat ((3 : Int), ((m4.getD c_Slot.toNat ((0 : Int), ((0 : Int), ((List.replicate 32 (0 : Int)), (List.replicate 32 (0 : Int)))))).2.1, ((m4.getD c_Slot.toNat ((0 : Int), ((0 : Int), ((List.replicate 32 (0 : Int)), (List.replicate 32 (0 : Int)))))).2.2.1, (m4.getD c_Slot.toNat ((0 : Int), ((0 : Int), ((List.replicate 32 (0 : Int)), (List.replicate 32 (0 : Int)))))).2.2.2)))).getD c_Slot.toNat ((0 : Int), ((0 : Int), ((List.replicate 32 (0 : Int)), (List.replicate 32 (0 : Int)))))).2.2.2)))))) else (F21_j71 n b_Slots c_Slot ((1 : Int), (m4.set c_Slot.toNat ((3 : Int), ((m4.getD c_Slot.toNat ((0 : Int), ((0 : Int), ((List.replicate 32 (0 : Int)), (List.replicate 32 (0 : Int)))))).2.1, ((m4.getD c_Slot.toNat ((0 : Int), ((0 : Int), ((List.replicate 32 (0 : Int)), (List.replicate 32 (0 : Int)))))).2.2.1, (m4.getD c_Slot.toNat ((0 : Int), ((0 : Int), ((List.replicate 32 (0 : Int)), (List.replicate 32 (0 : Int)))))).2.2.2))))))))
def F21_j83 (n : Nat) (b_Slots : List (Int × Int × (List Int) × List Int)) (c_Slot : Int) (c_Arg : Int) : Bool → Option ((List (Int × Int × (List Int) × List Int)) × Int × Int)
  | next => (bif next then (F21_j71 n b_Slots c_Slot ((17 : Int), b_Slots)) else (bif ((b_Slots.getD c_Slot.toNat ((0 : Int), ((0 : Int), ((List.replicate 32 (0 : Int)), (List.replicate 32 (0 : Int)))))).1 == (1 : Int)) then (F21_j71 n b_Slots c_Slot ((19 : Int), b_Slots)) else (loopF (F21_l84 n b_Slots c_Slot c_Arg) n ((2 : Int), b_Slots))))
def F21_j90 (n : Nat) (b_Slots : List (Int × Int × (List Int) × List Int)) (c_Kind : Int) (c_Slot : Int) (c_End : Int) (c_Arg : Int) : Bool → Option ((List (Int × Int × (List Int) × List Int)) × Int × Int)
  | x_12 => (bif x_12 then (F21_j71 n b_Slots c_Slot ((17 : Int), b_Slots)) else (bif (c_Kind == (8 : Int)) then (bif ((((b_Slots.getD c_Slot.toNat ((0 : Int), ((0 : Int), ((List.replicate 32 (0 : Int)), (List.replicate 32 (0 : Int)))))).2.2.1).getD c_End.toNat (0 : Int)) == (3 : Int)) then (F21_j71 n b_Slots c_Slot ((1 : Int), (b_Slots.set c_Slot.toNat ((b_Slots.getD c_Slot.toNat ((0 : Int), ((0 : Int), ((List.replicate 32 (0 : Int)), (List.replicate 32 (0 : Int)))))).1, ((b_Slots.getD c_Slot.toNat ((0 : Int), ((0 : Int), ((List.replicate 32 (0 : Int)), (List.replicate 32 (0 : Int)))))).2.1, ((b_Slots.getD c_Slot.toNat ((0 : Int), ((0 : Int), ((List.replicate 32 (0 : Int)), (List.replicate 32 (0 : Int)))))).2.2.1, (((b_Slots.getD c_Slot.toNat ((0 : Int), ((0 : Int), ((List.replicate 32 (0 : Int)), (List.replicate 32 (0 : Int)))))).2.2.2).set c_End.toNat c_Arg))))))) else (bif (c_Kind == (9 : Int)) then (bif ((((b_Slots.getD c_Slot.toNat ((0 : Int), ((0 : Int), ((List.replicate 32 (0 : Int)), (List.replicate 32 (0 : Int)))))).2.2.1).getD c_End.toNat (0 : Int)) == (1 : Int)) then (F21_j71 n b_Slots c_Slot ((1 : Int), (b_Slots.set c_Slot.toNat ((b_Slots.getD c_Slot.toNat ((0 : Int), ((0 : Int), ((List.replicate 32 (0 : Int)), (List.replicate 32 (0 : Int)))))).1, ((b_Slots.getD c_Slot.toNat ((0 : Int), ((0 : Int), ((List.replicate 32 (0 : Int)), (List.replicate 32 (0 : Int)))))).2.1, ((((b_Slots.getD c_Slot.toNat ((0 : Int), ((0 : Int), ((List.replicate 32 (0 : Int)), (List.replicate 32 (0 : Int)))))).2.2.1).set c_End.toNat (1 : Int)), (b_Slots.getD c_Slot.toNat ((0 : Int), ((0 : Int), ((List.replicate 32 (0 : Int)), (List.replicate 32 (0 : Int)))))).2.2.2)))))) else (F21_j71 n b_Slots c_Slot ((19 : Int), b_Slots))) else (F21_j71 n b_Slots c_Slot ((19 : Int), b_Slots)))) else (bif (c_Kind == (9 : Int)) then (bif ((((b_Slots.getD c_Slot.toNat ((0 : Int), ((0 : Int), ((List.replicate 32 (0 : Int)), (List.replicate 32 (0 : Int)))))).2.2.1).getD c_End.toNat (0 : Int)) == (3 : Int)) then (F21_j71 n b_Slots c_Slot ((1 : Int), (b_Slots.set c_Slot.toNat ((b_Slots.getD c_Slot.toNat ((0 : Int), ((0 : Int), ((List.replicate 32 (0 : Int)), (List.replicate 32 (0 : Int)))))).1, ((b_Slots.getD c_Slot.toNat ((0 : Int), ((0 : Int), ((List.replicate 32 (0 : Int)), (List.replicate 32 (0 : Int)))))).2.1, ((((b_Slots.getD c_Slot.toNat ((0 : Int), ((0 : Int), ((List.replicate 32 (0 : Int)), (List.replicate 32 (0 : Int)))))).2.2.1).set c_End.toNat (1 : Int)), (b_Slots.getD c_Slot.toNat ((0 : Int), ((0 : Int), ((List.replicate 32 (0 : Int)), (List.replicate 32 (0 : Int)))))).2.2.2)))))) else (bif ((((b_Slots.getD c_Slot.toNat ((0 : Int), ((0 : Int), ((List.replicate 32 (0 : Int)), (List.replicate 32 (0 : Int)))))).2.2.1).getD c_End.toNat (0 : Int)) == (1 : Int)) then (F21_j71 n b_Slots c_Slot ((1 : Int), (b_Slots.set c_Slot.toNat ((b_Slots.getD c_Slot.toNat ((0 : Int), ((0 : Int), ((List.replicate 32 (0 : Int)), (List.replicate 32 (0 : Int)))))).1, ((b_Slots.getD c_Slot.toNat ((0 : Int), ((0 : Int), ((List.replicate 32 (0 : Int)), (List.replicate 32 (0 : Int)))))).2.1, ((((b_Slots.getD c_Slot.toNat ((0 : Int), ((0 : Int), ((List.replicate 32 (0 : Int)), (List.replicate 32 (0 : Int)))))).2.2.1).set c_End.toNat (1 : Int)), (b_Slots.getD c_Slot.toNat ((0 : Int), ((0 : Int), ((List.replicate 32 (0 : Int)), (List.replicate 32 (0 : Int)))))).2.2.2)))))) else (F21_j71 n b_Slots c_Slot ((19 : Int), b_Slots)))) else (F21_j71 n b_Slots c_Slot ((19 : Int), b_Slots)))))
def F21_j89 (n : Nat) (b_Slots : List (Int × Int × (List Int) × List Int)) (c_Kind : Int) (c_Slot : Int) (c_End : Int) (c_Arg : Int) : Bool → Option ((List (Int × Int × (List Int) × List Int)) × Int × Int)
  | x_11 => (bif x_11 then (F21_j71 n b_Slots c_Slot ((1 : Int), (b_Slots.set c_Slot.toNat ((b_Slots.getD c_Slot.toNat ((0 : Int), ((0 : Int), ((List.replicate 32 (0 : Int)), (List.replicate 32 (0 : Int)))))).1, ((b_Slots.getD c_Slot.toNat ((0 : Int), ((0 : Int), ((List.replicate 32 (0 : Int)), (List.replicate 32 (0 : Int)))))).2.1, ((((b_Slots.getD c_Slot.toNat ((0 : Int), ((0 : Int), ((List.replicate 32 (0 : Int)), (List.replicate 32 (0 : Int)))))).2.2.1).set c_End.toNat (3 : Int)), (b_Slots.getD c_Slot.toNat ((0 : Int), ((0 : Int), ((List.replicate 32 (0 : Int)), (List.replicate 32 (0 : Int)))))).2.2.2)))))) else (bif (c_Kind == (8 : Int)) then (bif (decide (c_Arg < (0 : Int))) then (F21_j90 n b_Slots c_Kind c_Slot c_End c_Arg true) else (F21_j90 n b_Slots c_Kind c_Slot c_End c_Arg (decide (c_Arg > (65535 : Int))))) else (F21_j90 n b_Slots c_Kind c_Slot c_End c_Arg false)))
def F21_j91 (n : Nat) (b_Slots : List (Int × Int × (List Int) × List Int)) (c_Kind : Int) (c_Slot : Int) (c_End : Int) (c_Arg : Int) : Bool → Option ((List (Int × Int × (List Int) × List Int)) × Int × Int)
  | x_13 => (bif x_13 then (F21_j71 n b_Slots c_Slot ((17 : Int), b_Slots)) else (bif (c_Kind == (8 : Int)) then (bif ((((b_Slots.getD c_Slot.toNat ((0 : Int), ((0 : Int), ((List.replicate 32 (0 : Int)), (List.replicate 32 (0 : Int)))))).2.2.1).getD c_End.toNat (0 : Int)) == (3 : Int)) then (F21_j71 n b_Slots c_Slot ((1 : Int), (b_Slots.set c_Slot.toNat ((b_Slots.getD c_Slot.toNat ((0 : Int), ((0 : Int), ((List.replicate 32 (0 : Int)), (List.replicate 32 (0 : Int)))))).1, ((b_Slots.getD c_Slot.toNat ((0 : Int), ((0 : Int), ((List.replicate 32 (0 : Int)), (List.replicate 32 (0 : Int)))))).2.1, ((b_Slots.getD c_Slot.toNat ((0 : Int), ((0 : Int), ((List.replicate 32 (0 : Int)), (List.replicate 32 (0 : Int)))))).2.2.1, (((b_Slots.getD c_Slot.toNat ((0 : Int), ((0 : Int), ((List.replicate 32 (0 : Int)), (List.replicate 32 (0 : Int)))))).2.2.2).set c_End.toNat c_Arg))))))) else (bif (c_Kind == (9 : Int)) then (F21_j71 n b_Slots c_Slot ((19 : Int), b_Slots)) else (F21_j71 n b_Slots c_Slot ((19 : Int), b_Slots)))) else (bif (c_Kind == (9 : Int)) then (bif ((((b_Slots.getD c_Slot.toNat ((0 : Int), ((0 : Int), ((List.replicate 32 (0 : Int)), (List.replicate 32 (0 : Int)))))).2.2.1).getD c_End.toNat (0 : Int)) == (3 : Int)) then (F21_j71 n b_Slots c_Slot ((1 : Int), (b_Slots.set c_Slot.toNat ((b_Slots.getD c_Slot.toNat ((0 : Int), ((0 : Int), ((List.replicate 32 (0 : Int)), (List.replicate 32 (0 : Int)))))).1, ((b_Slots.getD c_Slot.toNat ((0 : Int), ((0 : Int), ((List.replicate 32 (0 : Int)), (List.replicate 32 (0 : Int)))))).2.1, ((((b_Slots.getD c_Slot.toNat ((0 : Int), ((0 : Int), ((List.replicate 32 (0 : Int)), (List.replicate 32 (0 : Int)))))).2.2.1).set c_End.toNat (1 : Int)), (b_Slots.getD c_Slot.toNat ((0 : Int), ((0 : Int), ((List.replicate 32 (0 : Int)), (List.replicate 32 (0 : Int)))))).2.2.2)))))) else (F21_j71 n b_Slots c_Slot ((19 : Int), b_Slots))) else (F21_j71 n b_Slots c_Slot ((19 : Int), b_Slots)))))
def F21_j92 (n : Nat) (b_Slots : List (Int × Int × (List Int) × List Int)) (c_Kind : Int) (c_Slot : Int) (c_End : Int) (c_Arg : Int) : Bool → Option ((List (Int × Int × (List Int) × List Int)) × Int × Int)
  | x_14 => (bif x_14 then (F21_j71 n b_Slots c_Slot ((17 : Int), b_Slots)) else (bif (c_Kind == (8 : Int)) then (bif ((((b_Slots.getD c_Slot.toNat ((0 : Int), ((0 : Int), ((List.replicate 32 (0 : Int)), (List.replicate 32 (0 : Int)))))).2.2.1).getD c_End.toNat (0 : Int)) == (3 : Int)) then (F21_j71 n b_Slots c_Slot ((1 : Int), (b_Slots.set c_Slot.toNat ((b_Slots.getD c_Slot.toNat ((0 : Int), ((0 : Int), ((List.replicate 32 (0 : Int)), (List.replicate 32 (0 : Int)))))).1, ((b_Slots.getD c_Slot.toNat ((0 : Int), ((0 : Int), ((List.replicate 32 (0 : Int)), (List.replicate 32 (0 : Int)))))).2.1, ((b_Slots.getD c_Slot.toNat ((0 : Int), ((0 : Int), ((List.replicate 32 (0 : Int)), (List.replicate 32 (0 : Int)))))).2.2.1, (((b_Slots.getD c_Slot.toNat ((0 : Int), ((0 : Int), ((List.replicate 32 (0 : Int)), (List.replicate 32 (0 : Int)))))).2.2.2).set c_End.toNat c_Arg))))))) else (bif (c_Kind == (9 : Int)) then (bif ((((b_Slots.getD c_Slot.toNat ((0 : Int), ((0 : Int), ((List.replicate 32 (0 : Int)), (List.replicate 32 (0 : Int)))))).2.2.1).getD c_End.toNat (0 : Int)) == (1 : Int)) then (F21_j71 n b_Slots c_Slot ((1 : Int), (b_Slots.set c_Slot.toNat ((b_Slots.getD c_Slot.toNat ((0 : Int), ((0 : Int), ((List.replicate 32 (0 : Int)), (List.replicate 32 (0 : Int)))))).1, ((b_Slots.getD c_Slot.toNat ((0 : Int), ((0 : Int), ((List.replicate 32 (0 : Int)), (List.replicate 32 (0 : Int)))))).2.1, ((((b_Slots.getD c_Slot.toNat ((0 : Int), ((0 : Int), ((List.replicate 32 (0 : Int)), (List.replicate 32 (0 : Int)))))).2.2.1).set c_End.toNat (1 : Int)), (b_Slots.getD c_Slot.toNat ((0 : Int), ((0 : Int), ((List.replicate 32 (0 : Int)), (List.replicate 32 (0 : Int)))))).2.2.2)))))) else (F21_j71 n b_Slots c_Slot ((19 : Int), b_Slots))) else (F21_j71 n b_Slots c_Slot ((19 : Int), b_Slots)))) else (bif (c_Kind == (9 : Int)) then (bif ((((b_Slots.getD c_Slot.toNat ((0 : Int), ((0 : Int), ((List.replicate 32 (0 : Int)), (List.replicate 32 (0 : Int)))))).2.2.1).getD c_End.toNat (0 : Int)) == (3 : Int)) then (F21_j71 n b_Slots c_Slot ((1 : Int), (b_Slots.set c_Slot.toNat ((b_Slots.getD c_Slot.toNat ((0 : Int), ((0 : Int), ((List.replicate 32 (0 : Int)), (List.replicate 32 (0 : Int)))))).1, ((b_Slots.getD c_Slot.toNat ((0 : Int), ((0 : Int), ((List.replicate 32 (0 : Int)), (List.replicate 32 (0 : Int)))))).2.1, ((((b_Slots.getD c_Slot.toNat ((0 : Int), ((0 : Int), ((List.replicate 32 (0 : Int)), (List.replicate 32 (0 : Int)))))).2.2.1).set c_End.toNat (1 : Int)), (b_Slots.getD c_Slot.toNat ((0 : Int), ((0 : Int), ((List.replicate 32 (0 : Int)), (List.replicate 32 (0 : Int)))))).2.2.2)))))) else (bif ((((b_Slots.getD c_Slot.toNat ((0 : Int), ((0 : Int), ((List.replicate 32 (0 : Int)), (List.replicate 32 (0 : Int)))))).2.2.1).getD c_End.toNat (0 : Int)) == (1 : Int)) then (F21_j71 n b_Slots c_Slot ((1 : Int), (b_Slots.set c_Slot.toNat ((b_Slots.getD c_Slot.toNat ((0 : Int), ((0 : Int), ((List.replicate 32 (0 : Int)), (List.replicate 32 (0 : Int)))))).1, ((b_Slots.getD c_Slot.toNat ((0 : Int), ((0 : Int), ((List.replicate 32 (0 : Int)), (List.replicate 32 (0 : Int)))))).2.1, ((((b_Slots.getD c_Slot.toNat ((0 : Int), ((0 : Int), ((List.replicate 32 (0 : Int)), (List.replicate 32 (0 : Int)))))).2.2.1).set c_End.toNat (1 : Int)), (b_Slots.getD c_Slot.toNat ((0 : Int), ((0 : Int), ((List.replicate 32 (0 : Int)), (List.replicate 32 (0 : Int)))))).2.2.2)))))) else (F21_j71 n b_Slots c_Slot ((19 : Int), b_Slots)))) else (F21_j71 n b_Slots c_Slot ((19 : Int), b_Slots)))))
def F21_j50 (n : Nat) (b_Slots : List (Int × Int × (List Int) × List Int)) (c_Kind : Int) (c_Slot : Int) (c_End : Int) (c_Arg : Int) : Bool → Option ((List (Int × Int × (List Int) × List Int)) × Int × Int)
  | x_4 => (bif x_4 then (some (b_Slots, (5 : Int), (0 : Int))) else (bif inb c_Slot 9 then (bif ((b_Slots.getD c_Slot.toNat ((0 : Int), ((0 : Int), ((List.replicate 32 (0 : Int)), (List.replicate 32 (0 : Int)))))).1 == (0 : Int)) then (F21_j71 n b_Slots c_Slot ((11 : Int), b_Slots)) else (bif (c_Kind == (3 : Int)) then (F21_j71 n b_Slots c_Slot ((1 : Int), (b_Slots.set c_Slot.toNat ((0 : Int), ((0 : Int), ((List.replicate 32 (0 : Int)), (List.replicate 32 (0 : Int)))))))) else (bif (c_Kind == (4 : Int)) then (bif ((b_Slots.getD c_Slot.toNat ((0 : Int), ((0 : Int), ((List.replicate 32 (0 : Int)), (List.replicate 32 (0 : Int)))))).1 != (1 : Int)) then (F21_j71 n b_Slots c_Slot ((19 : Int), b_Slots)) else (loopF (F21_l79 n b_Slots c_Slot) n ((1 : Int), true))) else (bif (c_Kind == (5 : Int)) then (bif (decide (c_Arg < (0 : Int))) then (F21_j83 n b_Slots c_Slot c_Arg true) else (bif (decide (c_Arg ≥ (4294967296 : Int))) then (F21_j83 n b_Slots c_Slot c_Arg true) else (F21_j83 n b_Slots c_Slot c_Arg ((bitsI .and .i64 c_Arg (3 : Int)) != (0 : Int))))) else (bif (decide (c_End < (1 : Int))) then (F21_j71 n b_Slots c_Slot ((5 : Int), b_Slots)) else (bif (decide (c_End > (31 : Int))) then (F21_j71 n b_Slots c_Slot ((5 : Int), b_Slots)) else (bif inb c_End 32 then (bif ((((b_Slots.getD c_Slot.toNat ((0 : Int), ((0 : Int), ((List.replicate 32 (0 : Int)), (List.replicate 32 (0 : Int)))))).2.2.1).getD c_End.toNat (0 : Int)) == (0 : Int)) then (F21_j71 n b_Slots c_Slot ((12 : Int), b_Slots)) else (bif (c_Kind == (6 : Int)) then (bif ((((b_Slots.getD c_Slot.toNat ((0 : Int), ((0 : Int), ((List.replicate 32 (0 : Int)), (List.replicate 32 (0 : Int)))))).2.2.1).getD c_End.toNat (0 : Int)) == (2 : Int)) then (F21_j89 n b_Slots c_Kind c_Slot c_End c_Arg ((((b_Slots.getD c_Slot.toNat ((0 : Int), ((0 : Int), ((List.replicate 32 (0 : Int)), (List.replicate 32 (0 : Int)))))).2.2.1).getD c_End.toNat (0 : Int)) == (2 : Int))) else (bif (c_Kind == (7 : Int)) then (F21_j89 n b_Slots c_Kind c_Slot c_End c_Arg ((((b_Slots.getD c_Slot.toNat ((0 : Int), ((0 : Int), ((List.replicate 32 (0 : Int)), (List.replicate 32 (0 : Int)))))).2.2.1).getD c_End.toNat (0 : Int)) == (1 : Int))) else (F21_j89 n b_Slots c_Kind c_Slot c_End c_Arg false))) else (bif (c_Kind == (7 : Int)) then (bif ((((b_Slots.getD c_Slot.toNat ((0 : Int), ((0 : Int), ((List.replicate 32 (0 : Int)), (List.replicate 32 (0 : Int)))))).2.2.1).getD c_End.toNat (0 : Int)) == (1 : Int)) then (F21_j71 n b_Slots c_Slot ((1 : Int), (b_Slots.set c_Slot.toNat ((b_Slots.getD c_Slot.toNat ((0 : Int), ((0 : Int), ((List.replicate 32 (0 : Int)), (List.replicate 32 (0 : Int)))))).1, ((b_Slots.getD c_Slot.toNat ((0 : Int), ((0 : Int), ((List.replicate 32 (0 : Int)), (List.replicate 32 (0 : Int)))))).2.1, ((((b_Slots.getD c_Slot.toNat ((0 : Int), ((0 : Int), ((List.replicate 32 (0 : Int)), (List.replicate 32 (0 : Int)))))).2.2.1).set c_End.toNat (3 : Int)), (b_Slots.getD c_Slot.toNat ((0 : Int), ((0 : Int), ((List.replicate 32 (0 : Int)), (List.replicate 32 (0 : Int)))))).2.2.2)))))) else (bif (c_Kind == (8 : Int)) then (bif (decide (c_Arg < (0 : Int))) then (F21_j91 n b_Slots c_Kind c_Slot c_End c_Arg true) else (F21_j91 n b_Slots c_Kind c_Slot c_End c_Arg (decide (c_Arg > (65535 : Int))))) else (F21_j91 n b_Slots c_Kind c_Slot c_End c_Arg false))) else (bif (c_Kind == (8 : Int)) then (bif (decide (c_Arg < (0 : Int))) then (F21_j92 n b_Slots c_Kind c_Slot c_End c_Arg true) else (F21_j92 n b_Slots c_Kind c_Slot c_End c_Arg (decide (c_Arg > (65535 : Int))))) else (F21_j92 n b_Slots c_Kind c_Slot c_End c_Arg false))))) else none))))))) else none))
def F21 (n : Nat) (b_Slots : List (Int × Int × (List Int) × List Int)) (c_Kind : Int) (c_Slot : Int) (c_End : Int) (c_Arg : Int) : Option ((List (Int × Int × (List Int) × List Int)) × Int × Int) := ((F23 n b_Slots).bind fun y_4 => (bif (y_4 != (0 : Int)) then (some (b_Slots, (0 : Int), (0 : Int))) else (bif (c_Kind == (1 : Int)) then (some (b_Slots, (1 : Int), (0 : Int))) else (bif (c_Kind == (2 : Int)) then (loopF (F21_l49 n b_Slots) n (1 : Int)) else (bif (decide (c_Kind < (1 : Int))) then (F21_j50 n b_Slots c_Kind c_Slot c_End c_Arg true) else (bif (decide (c_Kind > (9 : Int))) then (F21_j50 n b_Slots c_Kind c_Slot c_End c_Arg true) else (bif (decide (c_Slot < (1 : Int))) then (F21_j50 n b_Slots c_Kind c_Slot c_End c_Arg true) else (F21_j50 n b_Slots c_Kind c_Slot c_End c_Arg (decide (c_Slot > (8 : Int)))))))))))
end Go.Proofs.Ytkhfbleldchnpaa
