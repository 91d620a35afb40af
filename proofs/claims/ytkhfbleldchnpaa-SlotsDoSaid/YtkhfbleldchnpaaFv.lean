/- Functions of the program, as functions of values. -/
import Derived.Test.YtkhfbleldchnpaaFvx2
import Derived.Test.YtkhfbleldchnpaaChecked
namespace Go.Proofs.Ytkhfbleldchnpaa
open Go Go.RowKit
set_option linter.unusedVariables false
set_option maxRecDepth 100000

/-! plugtree/plugref.Between -/
def F19 (n : Nat) (vn : Int) (low : Int) (high : Int) : Option Bool := (bif (decide (low ≤ vn)) then (some (decide (vn ≤ high))) else (some false))
theorem F19_ok (n : Nat) (vn : Int) (low : Int) (high : Int) (r : Bool) (h : F19 n vn low high = some r) : PureC Try.prog 19 [(.int .i64 vn), (.int .i64 low), (.int .i64 high)] (.bool r) [] := by
  refine PureC.mkS Try.func19 rfl rfl ?_
  intro w0 fz0 hfz
  replace h : (bif (decide (low ≤ vn)) then (some (decide (vn ≤ high))) else (some false)) = some r := h
  refine TS.seq ?_
  have hq : (True) ∧ (True) := ⟨trivial, trivial⟩
  refine TS.reg [] ?_ ?_
  · apply prop_of ?_ hq
    kernel_rfl
  refine XS.then ?_
  refine TS.seq ?_
  rcases bif_some h with ⟨c1, h⟩ | ⟨c2, h⟩
  · have hq : (True) ∧ ((True) ∧ ((True) ∧ (((True) ∧ (decide (low ≤ vn)) = true) ∧ ((True) ∧ ((True) ∧ ((True) ∧ ((True) ∧ ((True) ∧ (True))))))))) := ⟨trivial, ⟨trivial, ⟨trivial, ⟨⟨trivial, c1⟩, ⟨trivial, ⟨trivial, ⟨trivial, ⟨trivial, ⟨trivial, trivial⟩⟩⟩⟩⟩⟩⟩⟩⟩
    refine TS.reg [.none, .none, .none, .dec true] ?_ ?_
    · apply prop_of ?_ hq
      kernel_rfl
    refine XS.then ?_
    refine TS.ret ?_
    obtain rfl : (decide (vn ≤ high)) = r := Option.some.inj h
    exact XS.fin [] ((True) ∧ (True)) (by kernel_rfl) ⟨trivial, trivial⟩
  · have hq : (True) ∧ ((True) ∧ ((True) ∧ (((True) ∧ (decide (low ≤ vn)) = false) ∧ ((True) ∧ ((True) ∧ (True)))))) := ⟨trivial, ⟨trivial, ⟨trivial, ⟨⟨trivial, c2⟩, ⟨trivial, ⟨trivial, trivial⟩⟩⟩⟩⟩⟩
    refine TS.reg [.none, .none, .none, .dec false] ?_ ?_
    · apply prop_of ?_ hq
      kernel_rfl
    refine XS.then ?_
    refine TS.ret ?_
    obtain rfl : false = r := Option.some.inj h
    exact XS.fin [] ((True) ∧ (True)) (by kernel_rfl) ⟨trivial, trivial⟩

/-! plugtree/plugref.endsIn -/
def F60_l2 (n : Nat) (s_Ends : List Int) (to : Int) (k60_2 : Int → Option Bool) : Int → Option Bool
  | k => (bif (decide (k ≤ to)) then (bif inb k 32 then (bif ((s_Ends.getD k.toNat (0 : Int)) != (0 : Int)) then (some true) else (k60_2 (IntKind.wrap .i64 (k + (1 : Int))))) else none) else (some false))
def F60 (n : Nat) (s_State : Int) (s_Addr : Int) (s_Ends : List Int) (s_Marks : List Int) (vfrom : Int) (to : Int) : Option Bool := (loopF (F60_l2 n s_Ends to) n vfrom)
theorem F60_ok (n : Nat) (s_State : Int) (s_Addr : Int) (s_Ends : List Int) (s_Marks : List Int) (vfrom : Int) (to : Int) (r : Bool) (h : F60 n s_State s_Addr s_Ends s_Marks vfrom to = some r) : PureC Try.prog 60 [(.st (.cons (.int .i64 s_State) (.cons (.int .i64 s_Addr) (.cons (.arr 32 (.int .i64) s_Ends) (.arr 32 (.int .i64) s_Marks))))), (.int .i64 vfrom), (.int .i64 to)] (.bool r) [] := by
  refine PureC.mkS Try.func60 rfl rfl ?_
  intro w0 fz0 hfz
  replace h : (loopF (F60_l2 n s_Ends to) n vfrom) = some r := h
  refine TS.seq ?_
  have hq : (True) ∧ ((True) ∧ (True)) := ⟨trivial, ⟨trivial, trivial⟩⟩
  refine TS.reg [] ?_ ?_
  · apply prop_of ?_ hq
    kernel_rfl
  refine XS.then ?_
  refine TS.seq ?_
  refine TS.seq ?_
  have hq : (True) ∧ ((True) ∧ (True)) := ⟨trivial, ⟨trivial, trivial⟩⟩
  refine TS.reg [] ?_ ?_
  · apply prop_of ?_ hq
    kernel_rfl
  refine XS.then ?_
  refine TS.block ?_
  refine TS.reLoop [0] (mkMask 19 [2, 3, 7]) (D := Int) (fun d => match d with | k => (mkTs 19 [(2, (.int .i64 to)), (3, (.ptr 0 [])), (7, (.int .i64 k))], [(.box 33 (.st (.cons (.int .i64 s_State) (.cons (.int .i64 s_Addr) (.cons (.arr 32 (.int .i64) s_Ends) (.arr 32 (.int .i64) s_Marks))))))])) (fun n' d => loopF (F60_l2 n s_Ends to) n' d = some r) n vfrom h ?_ (fun d => loopF_zero _ d r) ?_
  · kernel_rfl
  · rintro n2 k h
    replace h : (bif (decide (k ≤ to)) then (bif inb k 32 then (bif ((s_Ends.getD k.toNat (0 : Int)) != (0 : Int)) then (some true) else ((loopF (F60_l2 n s_Ends to) n2) (IntKind.wrap .i64 (k + (1 : Int))))) else none) else (some false)) = some r := h
    refine TS.seq ?_
    refine TS.seq ?_
    have hq : (True) ∧ ((True) ∧ ((True) ∧ (True))) := ⟨trivial, ⟨trivial, ⟨trivial, trivial⟩⟩⟩
    refine TS.reg [] ?_ ?_
    · apply prop_of ?_ hq
      kernel_rfl
    refine XS.then ?_
    rcases bif_some h with ⟨c1, h⟩ | ⟨c2, h⟩
    · refine TS.cond (decide (k ≤ to)) ?_ (fun e => ?_) (fun e => by rw [c1] at e; cases e)
      · kernel_rfl
      refine TS.skip ?_
      refine XS.then ?_
      refine TS.seq ?_
      refine TS.block ?_
      refine TS.seq ?_
      obtain ⟨t3, h⟩ := test_some h
      have hq : (True) ∧ ((True) ∧ ((inR k 32) ∧ ((k.toNat < 32 ∧ (True)) ∧ ((True) ∧ (True))))) := ⟨trivial, ⟨trivial, ⟨inb_ok t3, ⟨⟨inR_lt (inb_ok t3), trivial⟩, ⟨trivial, trivial⟩⟩⟩⟩⟩
      refine TS.reg [] ?_ ?_
      · apply prop_of ?_ hq
        kernel_rfl
      refine XS.then ?_
      rcases bif_some h with ⟨c4, h⟩ | ⟨c5, h⟩
      · refine TS.cond ((s_Ends.getD k.toNat (0 : Int)) != (0 : Int)) ?_ (fun e => ?_) (fun e => by rw [c4] at e; cases e)
        · kernel_rfl
        refine TS.seq ?_
        have hq : (True) ∧ (True) := ⟨trivial, trivial⟩
        refine TS.reg [] ?_ ?_
        · apply prop_of ?_ hq
          kernel_rfl
        refine XS.then ?_
        refine TS.ret ?_
        refine XS.blockRet ?_
        refine XS.passR ?_
        refine XS.passR ?_
        refine XS.blockRet ?_
        refine XS.passR ?_
        obtain rfl : true = r := Option.some.inj h
        exact XS.fin [] ((True) ∧ (True)) (by kernel_rfl) ⟨trivial, trivial⟩
      · refine TS.cond ((s_Ends.getD k.toNat (0 : Int)) != (0 : Int)) ?_ (fun e => by rw [c5] at e; cases e) (fun e => ?_)
        · kernel_rfl
        refine TS.skip ?_
        refine XS.blockEnd ?_
        refine XS.then ?_
        have hq : (True) ∧ ((True) ∧ ((True) ∧ (True))) := ⟨trivial, ⟨trivial, ⟨trivial, trivial⟩⟩⟩
        refine TS.reg [] ?_ ?_
        · apply prop_of ?_ hq
          kernel_rfl
        refine XS.reAny [0] (mkMask 19 [2, 3, 7]) (IntKind.wrap .i64 (k + (1 : Int))) h ?_
        kernel_rfl
    · refine TS.cond (decide (k ≤ to)) ?_ (fun e => by rw [c2] at e; cases e) (fun e => ?_)
      · kernel_rfl
      refine TS.exit ?_
      refine XS.passE ?_
      refine XS.passE ?_
      refine XS.out ?_
      refine XS.then ?_
      refine TS.seq ?_
      have hq : (True) ∧ (True) := ⟨trivial, trivial⟩
      refine TS.reg [] ?_ ?_
      · apply prop_of ?_ hq
        kernel_rfl
      refine XS.then ?_
      refine TS.ret ?_
      obtain rfl : false = r := Option.some.inj h
      exact XS.fin [] ((True) ∧ (True)) (by kernel_rfl) ⟨trivial, trivial⟩

/-! plugtree/plugref.Board -/
def F18_l30 (n : Nat) (k18_25 : Int → Option Int) (b_Slots : List (Int × Int × (List Int) × List Int)) (x : Int) (k18_30 : Int → Option Int) : Int → Option Int
  | x_5 => (bif (decide (x_5 < (((b_Slots.take x.toNat).length : Nat) : Int))) then (bif inb x_5 ((b_Slots.take x.toNat).length) then (bif (((b_Slots.take x.toNat).getD x_5.toNat ((0 : Int), ((0 : Int), ((List.replicate 32 (0 : Int)), (List.replicate 32 (0 : Int)))))).2.1 == (b_Slots.getD x.toNat ((0 : Int), ((0 : Int), ((List.replicate 32 (0 : Int)), (List.replicate 32 (0 : Int)))))).2.1) then (some (4 : Int)) else (k18_30 (IntKind.wrap .i64 (x_5 + (1 : Int))))) else none) else (k18_25 (IntKind.wrap .i64 (x + (1 : Int)))))
def F18_l29 (n : Nat) (k18_25 : Int → Option Int) (b_Slots : List (Int × Int × (List Int) × List Int)) (x : Int) (k18_29 : Int → Option Int) : Int → Option Int
  | x_4 => (bif (decide (x_4 < (32 : Int))) then (bif inb x_4 32 then ((F19 n (((b_Slots.getD x.toNat ((0 : Int), ((0 : Int), ((List.replicate 32 (0 : Int)), (List.replicate 32 (0 : Int)))))).2.2.1).getD x_4.toNat (0 : Int)) (0 : Int) (3 : Int)).bind fun y_2 => (bif (!y_2) then (some (4 : Int)) else ((F19 n (((b_Slots.getD x.toNat ((0 : Int), ((0 : Int), ((List.replicate 32 (0 : Int)), (List.replicate 32 (0 : Int)))))).2.2.2).getD x_4.toNat (0 : Int)) (0 : Int) (65535 : Int)).bind fun y_3 => (bif (!y_3) then (some (4 : Int)) else (bif ((((b_Slots.getD x.toNat ((0 : Int), ((0 : Int), ((List.replicate 32 (0 : Int)), (List.replicate 32 (0 : Int)))))).2.2.1).getD x_4.toNat (0 : Int)) == (0 : Int)) then (bif ((((b_Slots.getD x.toNat ((0 : Int), ((0 : Int), ((List.replicate 32 (0 : Int)), (List.replicate 32 (0 : Int)))))).2.2.2).getD x_4.toNat (0 : Int)) != (0 : Int)) then (some (4 : Int)) else (k18_29 (IntKind.wrap .i64 (x_4 + (1 : Int))))) else (k18_29 (IntKind.wrap .i64 (x_4 + (1 : Int))))))))) else none) else (bif subB b_Slots.length none (some x) then (loopF (F18_l30 n k18_25 b_Slots x) n (0 : Int)) else none))
def F18_j27 (n : Nat) (k18_25 : Int → Option Int) (b_Slots : List (Int × Int × (List Int) × List Int)) (x : Int) : Bool → Option Int
  | x_3 => (bif x_3 then (some (4 : Int)) else (loopF (F18_l29 n k18_25 b_Slots x) n (0 : Int)))
def F18_j26 (n : Nat) (k18_25 : Int → Option Int) (b_Slots : List (Int × Int × (List Int) × List Int)) (x : Int) : Bool → Option Int
  | x_2 => (bif x_2 then (some (4 : Int)) else (bif (decide ((b_Slots.getD x.toNat ((0 : Int), ((0 : Int), ((List.replicate 32 (0 : Int)), (List.replicate 32 (0 : Int)))))).1 < (2 : Int))) then (bif (!(Sh.beq (.st (.pair (.int .i64) (.pair (.int .i64) (.pair (.arr 32 (.int .i64)) (.arr 32 (.int .i64)))))) ((0 : Int), ((b_Slots.getD x.toNat ((0 : Int), ((0 : Int), ((List.replicate 32 (0 : Int)), (List.replicate 32 (0 : Int)))))).2.1, ((b_Slots.getD x.toNat ((0 : Int), ((0 : Int), ((List.replicate 32 (0 : Int)), (List.replicate 32 (0 : Int)))))).2.2.1, (b_Slots.getD x.toNat ((0 : Int), ((0 : Int), ((List.replicate 32 (0 : Int)), (List.replicate 32 (0 : Int)))))).2.2.2))) ((0 : Int), ((0 : Int), ((List.replicate 32 (0 : Int)), (List.replicate 32 (0 : Int))))))) then (some (4 : Int)) else (k18_25 (IntKind.wrap .i64 (x + (1 : Int))))) else ((F19 n ((b_Slots.getD x.toNat ((0 : Int), ((0 : Int), ((List.replicate 32 (0 : Int)), (List.replicate 32 (0 : Int)))))).2.1) (1 : Int) (127 : Int)).bind fun y_4 => (bif (!y_4) then (F18_j27 n k18_25 b_Slots x true) else (bif ((((b_Slots.getD x.toNat ((0 : Int), ((0 : Int), ((List.replicate 32 (0 : Int)), (List.replicate 32 (0 : Int)))))).2.2.1).getD 0 (0 : Int)) != (0 : Int)) then (F18_j27 n k18_25 b_Slots x true) else (bif ((((b_Slots.getD x.toNat ((0 : Int), ((0 : Int), ((List.replicate 32 (0 : Int)), (List.replicate 32 (0 : Int)))))).2.2.1).getD 1 (0 : Int)) == (0 : Int)) then (F18_j27 n k18_25 b_Slots x true) else ((F60 n ((b_Slots.getD x.toNat ((0 : Int), ((0 : Int), ((List.replicate 32 (0 : Int)), (List.replicate 32 (0 : Int)))))).1) ((b_Slots.getD x.toNat ((0 : Int), ((0 : Int), ((List.replicate 32 (0 : Int)), (List.replicate 32 (0 : Int)))))).2.1) ((b_Slots.getD x.toNat ((0 : Int), ((0 : Int), ((List.replicate 32 (0 : Int)), (List.replicate 32 (0 : Int)))))).2.2.1) ((b_Slots.getD x.toNat ((0 : Int), ((0 : Int), ((List.replicate 32 (0 : Int)), (List.replicate 32 (0 : Int)))))).2.2.2) (2 : Int) (31 : Int)).bind fun y_5 => (F18_j27 n k18_25 b_Slots x (!(y_5 == ((b_Slots.getD x.toNat ((0 : Int), ((0 : Int), ((List.replicate 32 (0 : Int)), (List.replicate 32 (0 : Int)))))).1 == (3 : Int))))))))))))
def F18_l25 (n : Nat) (b_Slots : List (Int × Int × (List Int) × List Int)) (k18_25 : Int → Option Int) : Int → Option Int
  | x => (bif (decide (x < (9 : Int))) then (bif inb x 9 then (bif (x == (0 : Int)) then (bif (!(Sh.beq (.st (.pair (.int .i64) (.pair (.int .i64) (.pair (.arr 32 (.int .i64)) (.arr 32 (.int .i64)))))) ((b_Slots.getD x.toNat ((0 : Int), ((0 : Int), ((List.replicate 32 (0 : Int)), (List.replicate 32 (0 : Int)))))).1, ((b_Slots.getD x.toNat ((0 : Int), ((0 : Int), ((List.replicate 32 (0 : Int)), (List.replicate 32 (0 : Int)))))).2.1, ((b_Slots.getD x.toNat ((0 : Int), ((0 : Int), ((List.replicate 32 (0 : Int)), (List.replicate 32 (0 : Int)))))).2.2.1, (b_Slots.getD x.toNat ((0 : Int), ((0 : Int), ((List.replicate 32 (0 : Int)), (List.replicate 32 (0 : Int)))))).2.2.2))) ((0 : Int), ((0 : Int), ((List.replicate 32 (0 : Int)), (List.replicate 32 (0 : Int))))))) then (F18_j26 n k18_25 b_Slots x true) else ((F19 n ((b_Slots.getD x.toNat ((0 : Int), ((0 : Int), ((List.replicate 32 (0 : Int)), (List.replicate 32 (0 : Int)))))).1) (0 : Int) (3 : Int)).bind fun y_6 => (F18_j26 n k18_25 b_Slots x (!y_6)))) else ((F19 n ((b_Slots.getD x.toNat ((0 : Int), ((0 : Int), ((List.replicate 32 (0 : Int)), (List.replicate 32 (0 : Int)))))).1) (0 : Int) (3 : Int)).bind fun y_7 => (F18_j26 n k18_25 b_Slots x (!y_7)))) else none) else (some (0 : Int)))
def F18 (n : Nat) (b_Slots : List (Int × Int × (List Int) × List Int)) : Option Int := (loopF (F18_l25 n b_Slots) n (0 : Int))
theorem F18_ok (n : Nat) (b_Slots : List (Int × Int × (List Int) × List Int)) (r : Int) (h : F18 n b_Slots = some r) : PureC Try.prog 18 [(.st (.arr 9 (.st (.pair (.int .i64) (.pair (.int .i64) (.pair (.arr 32 (.int .i64)) (.arr 32 (.int .i64)))))) b_Slots))] (.int .i64 r) [] := by
  refine PureC.mkS Try.func18 rfl rfl ?_
  intro w0 fz0 hfz
  replace h : (loopF (F18_l25 n b_Slots) n (0 : Int)) = some r := h
  refine TS.seq ?_
  have hq : (True) ∧ ((True) ∧ (True)) := ⟨trivial, ⟨trivial, trivial⟩⟩
  refine TS.reg [] ?_ ?_
  · apply prop_of ?_ hq
    kernel_rfl
  refine XS.then ?_
  refine TS.seq ?_
  have hq : (True) ∧ ((True) ∧ ((True) ∧ (True))) := ⟨trivial, ⟨trivial, ⟨trivial, trivial⟩⟩⟩
  refine TS.reg [] ?_ ?_
  · apply prop_of ?_ hq
    kernel_rfl
  refine XS.then ?_
  refine TS.seq ?_
  refine TS.seq ?_
  have hq : (True) ∧ ((True) ∧ ((True) ∧ (True))) := ⟨trivial, ⟨trivial, ⟨trivial, trivial⟩⟩⟩
  refine TS.reg [] ?_ ?_
  · apply prop_of ?_ hq
    kernel_rfl
  refine XS.then ?_
  refine TS.block ?_
  refine TS.frzB 0 ?_
  refine TS.reLoop [1] (mkMask 107 [1, 3, 11, 12]) (D := Int) (fun d => match d with | x => (mkTs 107 [(1, (.pv (.st (.arr 9 (.st (.pair (.int .i64) (.pair (.int .i64) (.pair (.arr 32 (.int .i64)) (.arr 32 (.int .i64)))))) b_Slots)))), (3, (.ptr 0 [])), (11, (.arr 9 (.st (.pair (.int .i64) (.pair (.int .i64) (.pair (.arr 32 (.int .i64)) (.arr 32 (.int .i64)))))) b_Slots)), (12, (.int .i64 x))], [(.box 33 (.st (.cons (.int .i64 (0 : Int)) (.cons (.int .i64 (0 : Int)) (.cons (.arr 32 (.int .i64) (List.replicate 32 (0 : Int))) (.arr 32 (.int .i64) (List.replicate 32 (0 : Int))))))))])) (fun n' d => loopF (F18_l25 n b_Slots) n' d = some r) n (0 : Int) h ?_ (fun d => loopF_zero _ d r) ?_
  · kernel_rfl
  · rintro n25 x h
    replace h : (bif (decide (x < (9 : Int))) then (bif inb x 9 then (bif (x == (0 : Int)) then (bif (!(Sh.beq (.st (.pair (.int .i64) (.pair (.int .i64) (.pair (.arr 32 (.int .i64)) (.arr 32 (.int .i64)))))) ((b_Slots.getD x.toNat ((0 : Int), ((0 : Int), ((List.replicate 32 (0 : Int)), (List.replicate 32 (0 : Int)))))).1, ((b_Slots.getD x.toNat ((0 : Int), ((0 : Int), ((List.replicate 32 (0 : Int)), (List.replicate 32 (0 : Int)))))).2.1, ((b_Slots.getD x.toNat ((0 : Int), ((0 : Int), ((List.replicate 32 (0 : Int)), (List.replicate 32 (0 : Int)))))).2.2.1, (b_Slots.getD x.toNat ((0 : Int), ((0 : Int), ((List.replicate 32 (0 : Int)), (List.replicate 32 (0 : Int)))))).2.2.2))) ((0 : Int), ((0 : Int), ((List.replicate 32 (0 : Int)), (List.replicate 32 (0 : Int))))))) then (F18_j26 n (loopF (F18_l25 n b_Slots) n25) b_Slots x true) else ((F19 n ((b_Slots.getD x.toNat ((0 : Int), ((0 : Int), ((List.replicate 32 (0 : Int)), (List.replicate 32 (0 : Int)))))).1) (0 : Int) (3 : Int)).bind fun y_6 => (F18_j26 n (loopF (F18_l25 n b_Slots) n25) b_Slots x (!y_6)))) else ((F19 n ((b_Slots.getD x.toNat ((0 : Int), ((0 : Int), ((List.replicate 32 (0 : Int)), (List.replicate 32 (0 : Int)))))).1) (0 : Int) (3 : Int)).bind fun y_7 => (F18_j26 n (loopF (F18_l25 n b_Slots) n25) b_Slots x (!y_7)))) else none) else (some (0 : Int))) = some r := h
    refine TS.seq ?_
    have hq : (True) ∧ (True) := ⟨trivial, trivial⟩
    refine TS.reg [] ?_ ?_
    · apply prop_of ?_ hq
      kernel_rfl
    refine XS.then ?_
    refine TS.seq ?_
    rcases bif_some h with ⟨c1, h⟩ | ⟨c2, h⟩
    · refine TS.cond (decide (x < (9 : Int))) ?_ (fun e => ?_) (fun e => by rw [c1] at e; cases e)
      · kernel_rfl
      refine TS.skip ?_
      refine XS.then ?_
      refine TS.seq ?_
      refine TS.block ?_
      refine TS.seq ?_
      obtain ⟨t3, h⟩ := test_some h
      have hq : (True) ∧ ((inR x 9) ∧ ((True) ∧ ((True) ∧ ((True) ∧ (True))))) := ⟨trivial, ⟨inb_ok t3, ⟨trivial, ⟨trivial, ⟨trivial, trivial⟩⟩⟩⟩⟩
      refine TS.reg [] ?_ ?_
      · apply prop_of ?_ hq
        kernel_rfl
      refine XS.then ?_
      refine TS.seq ?_
      refine TS.seq ?_
      refine TS.cut (D := Bool) (fun d => match d with | x_2 => (mkTs 107 [(1, (.pv (.st (.arr 9 (.st (.pair (.int .i64) (.pair (.int .i64) (.pair (.arr 32 (.int .i64)) (.arr 32 (.int .i64)))))) b_Slots)))), (3, (.ptr 0 [])), (4, (.int .i64 x)), (5, (.ptr 1 [])), (11, (.arr 9 (.st (.pair (.int .i64) (.pair (.int .i64) (.pair (.arr 32 (.int .i64)) (.arr 32 (.int .i64)))))) b_Slots)), (12, (.int .i64 x)), (28, (.bool x_2))], [(.box 33 (.st (.cons (.int .i64 (0 : Int)) (.cons (.int .i64 (0 : Int)) (.cons (.arr 32 (.int .i64) (List.replicate 32 (0 : Int))) (.arr 32 (.int .i64) (List.replicate 32 (0 : Int)))))))), (.box 33 (.st (.cons (.int .i64 (b_Slots.getD x.toNat ((0 : Int), ((0 : Int), ((List.replicate 32 (0 : Int)), (List.replicate 32 (0 : Int)))))).1) (.cons (.int .i64 (b_Slots.getD x.toNat ((0 : Int), ((0 : Int), ((List.replicate 32 (0 : Int)), (List.replicate 32 (0 : Int)))))).2.1) (.cons (.arr 32 (.int .i64) (b_Slots.getD x.toNat ((0 : Int), ((0 : Int), ((List.replicate 32 (0 : Int)), (List.replicate 32 (0 : Int)))))).2.2.1) (.arr 32 (.int .i64) (b_Slots.getD x.toNat ((0 : Int), ((0 : Int), ((List.replicate 32 (0 : Int)), (List.replicate 32 (0 : Int)))))).2.2.2))))))])) (fun d => F18_j26 n (loopF (F18_l25 n b_Slots) n25) b_Slots x d = some r) ?_ ?_
      · rintro x_2 h
        replace h : (bif x_2 then (some (4 : Int)) else (bif (decide ((b_Slots.getD x.toNat ((0 : Int), ((0 : Int), ((List.replicate 32 (0 : Int)), (List.replicate 32 (0 : Int)))))).1 < (2 : Int))) then (bif (!(Sh.beq (.st (.pair (.int .i64) (.pair (.int .i64) (.pair (.arr 32 (.int .i64)) (.arr 32 (.int .i64)))))) ((0 : Int), ((b_Slots.getD x.toNat ((0 : Int), ((0 : Int), ((List.replicate 32 (0 : Int)), (List.replicate 32 (0 : Int)))))).2.1, ((b_Slots.getD x.toNat ((0 : Int), ((0 : Int), ((List.replicate 32 (0 : Int)), (List.replicate 32 (0 : Int)))))).2.2.1, (b_Slots.getD x.toNat ((0 : Int), ((0 : Int), ((List.replicate 32 (0 : Int)), (List.replicate 32 (0 : Int)))))).2.2.2))) ((0 : Int), ((0 : Int), ((List.replicate 32 (0 : Int)), (List.replicate 32 (0 : Int))))))) then (some (4 : Int)) else ((loopF (F18_l25 n b_Slots) n25) (IntKind.wrap .i64 (x + (1 : Int))))) else ((F19 n ((b_Slots.getD x.toNat ((0 : Int), ((0 : Int), ((List.replicate 32 (0 : Int)), (List.replicate 32 (0 : Int)))))).2.1) (1 : Int) (127 : Int)).bind fun y_4 => (bif (!y_4) then (F18_j27 n (loopF (F18_l25 n b_Slots) n25) b_Slots x true) else (bif ((((b_Slots.getD x.toNat ((0 : Int), ((0 : Int), ((List.replicate 32 (0 : Int)), (List.replicate 32 (0 : Int)))))).2.2.1).getD 0 (0 : Int)) != (0 : Int)) then (F18_j27 n (loopF (F18_l25 n b_Slots) n25) b_Slots x true) else (bif ((((b_Slots.getD x.toNat ((0 : Int), ((0 : Int), ((List.replicate 32 (0 : Int)), (List.replicate 32 (0 : Int)))))).2.2.1).getD 1 (0 : Int)) == (0 : Int)) then (F18_j27 n (loopF (F18_l25 n b_Slots) n25) b_Slots x true) else ((F60 n ((b_Slots.getD x.toNat ((0 : Int), ((0 : Int), ((List.replicate 32 (0 : Int)), (List.replicate 32 (0 : Int)))))).1) ((b_Slots.getD x.toNat ((0 : Int), ((0 : Int), ((List.replicate 32 (0 : Int)), (List.replicate 32 (0 : Int)))))).2.1) ((b_Slots.getD x.toNat ((0 : Int), ((0 : Int), ((List.replicate 32 (0 : Int)), (List.replicate 32 (0 : Int)))))).2.2.1) ((b_Slots.getD x.toNat ((0 : Int), ((0 : Int), ((List.replicate 32 (0 : Int)), (List.replicate 32 (0 : Int)))))).2.2.2) (2 : Int) (31 : Int)).bind fun y_5 => (F18_j27 n (loopF (F18_l25 n b_Slots) n25) b_Slots x (!(y_5 == ((b_Slots.getD x.toNat ((0 : Int), ((0 : Int), ((List.replicate 32 (0 : Int)), (List.replicate 32 (0 : Int)))))).1 == (3 : Int)))))))))))) = some r := h
        refine XS.then ?_
        rcases bif_some h with ⟨c4, h⟩ | ⟨c5, h⟩
        · refine TS.cond x_2 ?_ (fun e => ?_) (fun e => by rw [c4] at e; cases e)
          · kernel_rfl
          refine TS.seq ?_
          have hq : (True) ∧ (True) := ⟨trivial, trivial⟩
          refine TS.reg [] ?_ ?_
          · apply prop_of ?_ hq
            kernel_rfl
          refine XS.then ?_
          refine TS.ret ?_
          refine XS.passR ?_
          refine XS.blockRet ?_
          refine XS.passR ?_
          refine XS.passR ?_
          refine XS.blockRet ?_
          refine XS.passR ?_
          obtain rfl : (4 : Int) = r := Option.some.inj h
          exact XS.fin [] ((True) ∧ (True)) (by kernel_rfl) ⟨trivial, trivial⟩
        · refine TS.cond x_2 ?_ (fun e => by rw [c5] at e; cases e) (fun e => ?_)
          · kernel_rfl
          refine TS.skip ?_
          refine XS.then ?_
          refine TS.seq ?_
          refine TS.seq ?_
          have hq : (True) ∧ ((True) ∧ ((True) ∧ (True))) := ⟨trivial, ⟨trivial, ⟨trivial, trivial⟩⟩⟩
          refine TS.reg [] ?_ ?_
          · apply prop_of ?_ hq
            kernel_rfl
          refine XS.then ?_
          rcases bif_some h with ⟨c6, h⟩ | ⟨c7, h⟩
          · refine TS.cond (decide ((b_Slots.getD x.toNat ((0 : Int), ((0 : Int), ((List.replicate 32 (0 : Int)), (List.replicate 32 (0 : Int)))))).1 < (2 : Int))) ?_ (fun e => ?_) (fun e => by rw [c6] at e; cases e)
            · kernel_rfl
            refine TS.seq ?_
            have hq : (True) ∧ ((True) ∧ (True)) := ⟨trivial, ⟨trivial, trivial⟩⟩
            refine TS.reg [] ?_ ?_
            · apply prop_of ?_ hq
              kernel_rfl
            refine XS.then ?_
            refine TS.seq ?_
            refine TS.seq ?_
            have hq : (True) ∧ ((True) ∧ ((True) ∧ (True))) := ⟨trivial, ⟨trivial, ⟨trivial, trivial⟩⟩⟩
            refine TS.reg [] ?_ ?_
            · apply prop_of ?_ hq
              kernel_rfl
            refine XS.then ?_
            rcases bif_some h with ⟨c8, h⟩ | ⟨c9, h⟩
            · refine TS.cond (!(Sh.beq (.st (.pair (.int .i64) (.pair (.int .i64) (.pair (.arr 32 (.int .i64)) (.arr 32 (.int .i64)))))) ((0 : Int), ((b_Slots.getD x.toNat ((0 : Int), ((0 : Int), ((List.replicate 32 (0 : Int)), (List.replicate 32 (0 : Int)))))).2.1, ((b_Slots.getD x.toNat ((0 : Int), ((0 : Int), ((List.replicate 32 (0 : Int)), (List.replicate 32 (0 : Int)))))).2.2.1, (b_Slots.getD x.toNat ((0 : Int), ((0 : Int), ((List.replicate 32 (0 : Int)), (List.replicate 32 (0 : Int)))))).2.2.2))) ((0 : Int), ((0 : Int), ((List.replicate 32 (0 : Int)), (List.replicate 32 (0 : Int))))))) ?_ (fun e => ?_) (fun e => by rw [c8] at e; cases e)
              · kernel_rfl
              refine TS.seq ?_
              have hq : (True) ∧ (True) := ⟨trivial, trivial⟩
              refine TS.reg [] ?_ ?_
              · apply prop_of ?_ hq
                kernel_rfl
              refine XS.then ?_
              refine TS.ret ?_
              refine XS.passR ?_
              refine XS.passR ?_
              refine XS.blockRet ?_
              refine XS.passR ?_
              refine XS.passR ?_
              refine XS.blockRet ?_
              refine XS.passR ?_
              obtain rfl : (4 : Int) = r := Option.some.inj h
              exact XS.fin [] ((True) ∧ (True)) (by kernel_rfl) ⟨trivial, trivial⟩
            · refine TS.cond (!(Sh.beq (.st (.pair (.int .i64) (.pair (.int .i64) (.pair (.arr 32 (.int .i64)) (.arr 32 (.int .i64)))))) ((0 : Int), ((b_Slots.getD x.toNat ((0 : Int), ((0 : Int), ((List.replicate 32 (0 : Int)), (List.replicate 32 (0 : Int)))))).2.1, ((b_Slots.getD x.toNat ((0 : Int), ((0 : Int), ((List.replicate 32 (0 : Int)), (List.replicate 32 (0 : Int)))))).2.2.1, (b_Slots.getD x.toNat ((0 : Int), ((0 : Int), ((List.replicate 32 (0 : Int)), (List.replicate 32 (0 : Int)))))).2.2.2))) ((0 : Int), ((0 : Int), ((List.replicate 32 (0 : Int)), (List.replicate 32 (0 : Int))))))) ?_ (fun e => by rw [c9] at e; cases e) (fun e => ?_)
              · kernel_rfl
              refine TS.skip ?_
              refine XS.then ?_
              refine TS.exit ?_
              refine XS.passE ?_
              refine XS.out ?_
              refine XS.then ?_
              have hq : (True) ∧ ((True) ∧ (True)) := ⟨trivial, ⟨trivial, trivial⟩⟩
              refine TS.reg [] ?_ ?_
              · apply prop_of ?_ hq
                kernel_rfl
              refine XS.reAny [0] (mkMask 107 [1, 3, 11, 12]) (IntKind.wrap .i64 (x + (1 : Int))) h ?_
              kernel_rfl
          · refine TS.cond (decide ((b_Slots.getD x.toNat ((0 : Int), ((0 : Int), ((List.replicate 32 (0 : Int)), (List.replicate 32 (0 : Int)))))).1 < (2 : Int))) ?_ (fun e => by rw [c7] at e; cases e) (fun e => ?_)
            · kernel_rfl
            refine TS.skip ?_
            refine XS.then ?_
            refine TS.seq ?_
            refine TS.seq ?_
            refine TS.cut (D := Bool) (fun d => match d with | x_3 => (mkTs 107 [(1, (.pv (.st (.arr 9 (.st (.pair (.int .i64) (.pair (.int .i64) (.pair (.arr 32 (.int .i64)) (.arr 32 (.int .i64)))))) b_Slots)))), (3, (.ptr 0 [])), (4, (.int .i64 x)), (5, (.ptr 1 [])), (11, (.arr 9 (.st (.pair (.int .i64) (.pair (.int .i64) (.pair (.arr 32 (.int .i64)) (.arr 32 (.int .i64)))))) b_Slots)), (12, (.int .i64 x)), (59, (.bool x_3))], [(.box 33 (.st (.cons (.int .i64 (0 : Int)) (.cons (.int .i64 (0 : Int)) (.cons (.arr 32 (.int .i64) (List.replicate 32 (0 : Int))) (.arr 32 (.int .i64) (List.replicate 32 (0 : Int)))))))), (.box 33 (.st (.cons (.int .i64 (b_Slots.getD x.toNat ((0 : Int), ((0 : Int), ((List.replicate 32 (0 : Int)), (List.replicate 32 (0 : Int)))))).1) (.cons (.int .i64 (b_Slots.getD x.toNat ((0 : Int), ((0 : Int), ((List.replicate 32 (0 : Int)), (List.replicate 32 (0 : Int)))))).2.1) (.cons (.arr 32 (.int .i64) (b_Slots.getD x.toNat ((0 : Int), ((0 : Int), ((List.replicate 32 (0 : Int)), (List.replicate 32 (0 : Int)))))).2.2.1) (.arr 32 (.int .i64) (b_Slots.getD x.toNat ((0 : Int), ((0 : Int), ((List.replicate 32 (0 : Int)), (List.replicate 32 (0 : Int)))))).2.2.2))))))])) (fun d => F18_j27 n (loopF (F18_l25 n b_Slots) n25) b_Slots x d = some r) ?_ ?_
            · rintro x_3 h
              replace h : (bif x_3 then (some (4 : Int)) else (loopF (F18_l29 n (loopF (F18_l25 n b_Slots) n25) b_Slots x) n (0 : Int))) = some r := h
              refine XS.then ?_
              rcases bif_some h with ⟨c10, h⟩ | ⟨c11, h⟩
              · refine TS.cond x_3 ?_ (fun e => ?_) (fun e => by rw [c10] at e; cases e)
                · kernel_rfl
                refine TS.seq ?_
                have hq : (True) ∧ (True) := ⟨trivial, trivial⟩
                refine TS.reg [] ?_ ?_
                · apply prop_of ?_ hq
                  kernel_rfl
                refine XS.then ?_
                refine TS.ret ?_
                refine XS.passR ?_
                refine XS.blockRet ?_
                refine XS.passR ?_
                refine XS.passR ?_
                refine XS.blockRet ?_
                refine XS.passR ?_
                obtain rfl : (4 : Int) = r := Option.some.inj h
                exact XS.fin [] ((True) ∧ (True)) (by kernel_rfl) ⟨trivial, trivial⟩
              · refine TS.cond x_3 ?_ (fun e => by rw [c11] at e; cases e) (fun e => ?_)
                · kernel_rfl
                refine TS.skip ?_
                refine XS.then ?_
                refine TS.seq ?_
                refine TS.seq ?_
                have hq : (True) ∧ (True) := ⟨trivial, trivial⟩
                refine TS.reg [] ?_ ?_
                · apply prop_of ?_ hq
                  kernel_rfl
                refine XS.then ?_
                refine TS.block ?_
                refine TS.reLoop [0, 1] (mkMask 107 [1, 3, 4, 5, 11, 12, 60]) (D := Int) (fun d => match d with | x_4 => (mkTs 107 [(1, (.pv (.st (.arr 9 (.st (.pair (.int .i64) (.pair (.int .i64) (.pair (.arr 32 (.int .i64)) (.arr 32 (.int .i64)))))) b_Slots)))), (3, (.ptr 0 [])), (4, (.int .i64 x)), (5, (.ptr 1 [])), (11, (.arr 9 (.st (.pair (.int .i64) (.pair (.int .i64) (.pair (.arr 32 (.int .i64)) (.arr 32 (.int .i64)))))) b_Slots)), (12, (.int .i64 x)), (60, (.int .i64 x_4))], [(.box 33 (.st (.cons (.int .i64 (0 : Int)) (.cons (.int .i64 (0 : Int)) (.cons (.arr 32 (.int .i64) (List.replicate 32 (0 : Int))) (.arr 32 (.int .i64) (List.replicate 32 (0 : Int)))))))), (.box 33 (.st (.cons (.int .i64 (b_Slots.getD x.toNat ((0 : Int), ((0 : Int), ((List.replicate 32 (0 : Int)), (List.replicate 32 (0 : Int)))))).1) (.cons (.int .i64 (b_Slots.getD x.toNat ((0 : Int), ((0 : Int), ((List.replicate 32 (0 : Int)), (List.replicate 32 (0 : Int)))))).2.1) (.cons (.arr 32 (.int .i64) (b_Slots.getD x.toNat ((0 : Int), ((0 : Int), ((List.replicate 32 (0 : Int)), (List.replicate 32 (0 : Int)))))).2.2.1) (.arr 32 (.int .i64) (b_Slots.getD x.toNat ((0 : Int), ((0 : Int), ((List.replicate 32 (0 : Int)), (List.replicate 32 (0 : Int)))))).2.2.2))))))])) (fun n' d => loopF (F18_l29 n (loopF (F18_l25 n b_Slots) n25) b_Slots x) n' d = some r) n (0 : Int) h ?_ (fun d => loopF_zero _ d r) ?_
                · kernel_rfl
                · rintro n29 x_4 h
                  replace h : (bif (decide (x_4 < (32 : Int))) then (bif inb x_4 32 then ((F19 n (((b_Slots.getD x.toNat ((0 : Int), ((0 : Int), ((List.replicate 32 (0 : Int)), (List.replicate 32 (0 : Int)))))).2.2.1).getD x_4.toNat (0 : Int)) (0 : Int) (3 : Int)).bind fun y_2 => (bif (!y_2) then (some (4 : Int)) else ((F19 n (((b_Slots.getD x.toNat ((0 : Int), ((0 : Int), ((List.replicate 32 (0 : Int)), (List.replicate 32 (0 : Int)))))).2.2.2).getD x_4.toNat (0 : Int)) (0 : Int) (65535 : Int)).bind fun y_3 => (bif (!y_3) then (some (4 : Int)) else (bif ((((b_Slots.getD x.toNat ((0 : Int), ((0 : Int), ((List.replicate 32 (0 : Int)), (List.replicate 32 (0 : Int)))))).2.2.1).getD x_4.toNat (0 : Int)) == (0 : Int)) then (bif ((((b_Slots.getD x.toNat ((0 : Int), ((0 : Int), ((List.replicate 32 (0 : Int)), (List.replicate 32 (0 : Int)))))).2.2.2).getD x_4.toNat (0 : Int)) != (0 : Int)) then (some (4 : Int)) else ((loopF (F18_l29 n (loopF (F18_l25 n b_Slots) n25) b_Slots x) n29) (IntKind.wrap .i64 (x_4 + (1 : Int))))) else ((loopF (F18_l29 n (loopF (F18_l25 n b_Slots) n25) b_Slots x) n29) (IntKind.wrap .i64 (x_4 + (1 : Int))))))))) else none) else (bif subB b_Slots.length none (some x) then (loopF (F18_l30 n (loopF (F18_l25 n b_Slots) n25) b_Slots x) n (0 : Int)) else none)) = some r := h
                  refine TS.seq ?_
                  have hq : (True) ∧ (True) := ⟨trivial, trivial⟩
                  refine TS.reg [] ?_ ?_
                  · apply prop_of ?_ hq
                    kernel_rfl
                  refine XS.then ?_
                  refine TS.seq ?_
                  rcases bif_some h with ⟨c12, h⟩ | ⟨c13, h⟩
                  · refine TS.cond (decide (x_4 < (32 : Int))) ?_ (fun e => ?_) (fun e => by rw [c12] at e; cases e)
                    · kernel_rfl
                    refine TS.skip ?_
                    refine XS.then ?_
                    refine TS.seq ?_
                    refine TS.block ?_
                    refine TS.seq ?_
                    have hq : (True) ∧ ((True) ∧ (True)) := ⟨trivial, ⟨trivial, trivial⟩⟩
                    refine TS.reg [] ?_ ?_
                    · apply prop_of ?_ hq
                      kernel_rfl
                    refine XS.then ?_
                    refine TS.seq ?_
                    obtain ⟨t14, h⟩ := test_some h
                    obtain ⟨y_2, hx15, h⟩ := bind_some' h
                    rcases bif_some h with ⟨c16, h⟩ | ⟨c17, h⟩
                    · have hq : (True) ∧ ((True) ∧ ((inR x_4 32) ∧ ((x_4.toNat < 32 ∧ (True)) ∧ ((PureC Try.prog 19 [(.int .i64 (((b_Slots.getD x.toNat ((0 : Int), ((0 : Int), ((List.replicate 32 (0 : Int)), (List.replicate 32 (0 : Int)))))).2.2.1).getD x_4.toNat (0 : Int))), (.int .i64 (0 : Int)), (.int .i64 (3 : Int))] (.bool y_2) []) ∧ ((True) ∧ (((True) ∧ (!y_2) = true) ∧ ((True) ∧ ((True) ∧ ((True) ∧ (True)))))))))) := ⟨trivial, ⟨trivial, ⟨inb_ok t14, ⟨⟨inR_lt (inb_ok t14), trivial⟩, ⟨F19_ok n (((b_Slots.getD x.toNat ((0 : Int), ((0 : Int), ((List.replicate 32 (0 : Int)), (List.replicate 32 (0 : Int)))))).2.2.1).getD x_4.toNat (0 : Int)) (0 : Int) (3 : Int) y_2 hx15, ⟨trivial, ⟨⟨trivial, c16⟩, ⟨trivial, ⟨trivial, ⟨trivial, trivial⟩⟩⟩⟩⟩⟩⟩⟩⟩⟩
                      refine TS.reg [.none, .none, .none, .none, (.call (.bool y_2) []), .none, .dec true] ?_ ?_
                      · apply prop_of ?_ hq
                        kernel_rfl
                      refine XS.then ?_
                      refine TS.yes ?_ ?_
                      · kernel_rfl
                      refine TS.seq ?_
                      have hq : (True) ∧ (True) := ⟨trivial, trivial⟩
                      refine TS.reg [] ?_ ?_
                      · apply prop_of ?_ hq
                        kernel_rfl
                      refine XS.then ?_
                      refine TS.ret ?_
                      refine XS.blockRet ?_
                      refine XS.passR ?_
                      refine XS.passR ?_
                      refine XS.blockRet ?_
                      refine XS.passR ?_
                      refine XS.blockRet ?_
                      refine XS.passR ?_
                      refine XS.passR ?_
                      refine XS.blockRet ?_
                      refine XS.passR ?_
                      obtain rfl : (4 : Int) = r := Option.some.inj h
                      exact XS.fin [] ((True) ∧ (True)) (by kernel_rfl) ⟨trivial, trivial⟩
                    · obtain ⟨y_3, hx18, h⟩ := bind_some' h
                      rcases bif_some h with ⟨c19, h⟩ | ⟨c20, h⟩
                      · have hq : (True) ∧ ((True) ∧ ((inR x_4 32) ∧ ((x_4.toNat < 32 ∧ (True)) ∧ ((PureC Try.prog 19 [(.int .i64 (((b_Slots.getD x.toNat ((0 : Int), ((0 : Int), ((List.replicate 32 (0 : Int)), (List.replicate 32 (0 : Int)))))).2.2.1).getD x_4.toNat (0 : Int))), (.int .i64 (0 : Int)), (.int .i64 (3 : Int))] (.bool y_2) []) ∧ ((True) ∧ (((True) ∧ (!y_2) = false) ∧ ((True) ∧ ((True) ∧ ((inR x_4 32) ∧ ((x_4.toNat < 32 ∧ (True)) ∧ ((PureC Try.prog 19 [(.int .i64 (((b_Slots.getD x.toNat ((0 : Int), ((0 : Int), ((List.replicate 32 (0 : Int)), (List.replicate 32 (0 : Int)))))).2.2.2).getD x_4.toNat (0 : Int))), (.int .i64 (0 : Int)), (.int .i64 (65535 : Int))] (.bool y_3) []) ∧ ((True) ∧ ((True) ∧ (((True) ∧ (!y_3) = true) ∧ ((True) ∧ (True)))))))))))))))) := ⟨trivial, ⟨trivial, ⟨inb_ok t14, ⟨⟨inR_lt (inb_ok t14), trivial⟩, ⟨F19_ok n (((b_Slots.getD x.toNat ((0 : Int), ((0 : Int), ((List.replicate 32 (0 : Int)), (List.replicate 32 (0 : Int)))))).2.2.1).getD x_4.toNat (0 : Int)) (0 : Int) (3 : Int) y_2 hx15, ⟨trivial, ⟨⟨trivial, c17⟩, ⟨trivial, ⟨trivial, ⟨inb_ok t14, ⟨⟨inR_lt (inb_ok t14), trivial⟩, ⟨F19_ok n (((b_Slots.getD x.toNat ((0 : Int), ((0 : Int), ((List.replicate 32 (0 : Int)), (List.replicate 32 (0 : Int)))))).2.2.2).getD x_4.toNat (0 : Int)) (0 : Int) (65535 : Int) y_3 hx18, ⟨trivial, ⟨trivial, ⟨⟨trivial, c19⟩, ⟨trivial, trivial⟩⟩⟩⟩⟩⟩⟩⟩⟩⟩⟩⟩⟩⟩⟩⟩
                        refine TS.reg [.none, .none, .none, .none, (.call (.bool y_2) []), .none, .dec false, .none, .none, .none, .none, (.call (.bool y_3) []), .none, .none, .dec true] ?_ ?_
                        · apply prop_of ?_ hq
                          kernel_rfl
                        refine XS.then ?_
                        refine TS.yes ?_ ?_
                        · kernel_rfl
                        refine TS.seq ?_
                        have hq : (True) ∧ (True) := ⟨trivial, trivial⟩
                        refine TS.reg [] ?_ ?_
                        · apply prop_of ?_ hq
                          kernel_rfl
                        refine XS.then ?_
                        refine TS.ret ?_
                        refine XS.blockRet ?_
                        refine XS.passR ?_
                        refine XS.passR ?_
                        refine XS.blockRet ?_
                        refine XS.passR ?_
                        refine XS.blockRet ?_
                        refine XS.passR ?_
                        refine XS.passR ?_
                        refine XS.blockRet ?_
                        refine XS.passR ?_
                        obtain rfl : (4 : Int) = r := Option.some.inj h
                        exact XS.fin [] ((True) ∧ (True)) (by kernel_rfl) ⟨trivial, trivial⟩
                      · rcases bif_some h with ⟨c21, h⟩ | ⟨c22, h⟩
                        · have hq : (True) ∧ ((True) ∧ ((inR x_4 32) ∧ ((x_4.toNat < 32 ∧ (True)) ∧ ((PureC Try.prog 19 [(.int .i64 (((b_Slots.getD x.toNat ((0 : Int), ((0 : Int), ((List.replicate 32 (0 : Int)), (List.replicate 32 (0 : Int)))))).2.2.1).getD x_4.toNat (0 : Int))), (.int .i64 (0 : Int)), (.int .i64 (3 : Int))] (.bool y_2) []) ∧ ((True) ∧ (((True) ∧ (!y_2) = false) ∧ ((True) ∧ ((True) ∧ ((inR x_4 32) ∧ ((x_4.toNat < 32 ∧ (True)) ∧ ((PureC Try.prog 19 [(.int .i64 (((b_Slots.getD x.toNat ((0 : Int), ((0 : Int), ((List.replicate 32 (0 : Int)), (List.replicate 32 (0 : Int)))))).2.2.2).getD x_4.toNat (0 : Int))), (.int .i64 (0 : Int)), (.int .i64 (65535 : Int))] (.bool y_3) []) ∧ ((True) ∧ ((True) ∧ (((True) ∧ (!y_3) = false) ∧ ((True) ∧ ((True) ∧ ((inR x_4 32) ∧ ((x_4.toNat < 32 ∧ (True)) ∧ ((True) ∧ (((True) ∧ ((((b_Slots.getD x.toNat ((0 : Int), ((0 : Int), ((List.replicate 32 (0 : Int)), (List.replicate 32 (0 : Int)))))).2.2.1).getD x_4.toNat (0 : Int)) == (0 : Int)) = true) ∧ ((True) ∧ ((True) ∧ ((inR x_4 32) ∧ ((x_4.toNat < 32 ∧ (True)) ∧ ((True) ∧ ((True) ∧ ((True) ∧ (True)))))))))))))))))))))))))))) := ⟨trivial, ⟨trivial, ⟨inb_ok t14, ⟨⟨inR_lt (inb_ok t14), trivial⟩, ⟨F19_ok n (((b_Slots.getD x.toNat ((0 : Int), ((0 : Int), ((List.replicate 32 (0 : Int)), (List.replicate 32 (0 : Int)))))).2.2.1).getD x_4.toNat (0 : Int)) (0 : Int) (3 : Int) y_2 hx15, ⟨trivial, ⟨⟨trivial, c17⟩, ⟨trivial, ⟨trivial, ⟨inb_ok t14, ⟨⟨inR_lt (inb_ok t14), trivial⟩, ⟨F19_ok n (((b_Slots.getD x.toNat ((0 : Int), ((0 : Int), ((List.replicate 32 (0 : Int)), (List.replicate 32 (0 : Int)))))).2.2.2).getD x_4.toNat (0 : Int)) (0 : Int) (65535 : Int) y_3 hx18, ⟨trivial, ⟨trivial, ⟨⟨trivial, c20⟩, ⟨trivial, ⟨trivial, ⟨inb_ok t14, ⟨⟨inR_lt (inb_ok t14), trivial⟩, ⟨trivial, ⟨⟨trivial, c21⟩, ⟨trivial, ⟨trivial, ⟨inb_ok t14, ⟨⟨inR_lt (inb_ok t14), trivial⟩, ⟨trivial, ⟨trivial, ⟨trivial, trivial⟩⟩⟩⟩⟩⟩⟩⟩⟩⟩⟩⟩⟩⟩⟩⟩⟩⟩⟩⟩⟩⟩⟩⟩⟩⟩⟩⟩
                          refine TS.reg [.none, .none, .none, .none, (.call (.bool y_2) []), .none, .dec false, .none, .none, .none, .none, (.call (.bool y_3) []), .none, .none, .dec false, .none, .none, .none, .none, .none, .dec true] ?_ ?_
                          · apply prop_of ?_ hq
                            kernel_rfl
                          refine XS.then ?_
                          rcases bif_some h with ⟨c23, h⟩ | ⟨c24, h⟩
                          · refine TS.cond ((((b_Slots.getD x.toNat ((0 : Int), ((0 : Int), ((List.replicate 32 (0 : Int)), (List.replicate 32 (0 : Int)))))).2.2.2).getD x_4.toNat (0 : Int)) != (0 : Int)) ?_ (fun e => ?_) (fun e => by rw [c23] at e; cases e)
                            · kernel_rfl
                            refine TS.seq ?_
                            have hq : (True) ∧ (True) := ⟨trivial, trivial⟩
                            refine TS.reg [] ?_ ?_
                            · apply prop_of ?_ hq
                              kernel_rfl
                            refine XS.then ?_
                            refine TS.ret ?_
                            refine XS.blockRet ?_
                            refine XS.passR ?_
                            refine XS.passR ?_
                            refine XS.blockRet ?_
                            refine XS.passR ?_
                            refine XS.blockRet ?_
                            refine XS.passR ?_
                            refine XS.passR ?_
                            refine XS.blockRet ?_
                            refine XS.passR ?_
                            obtain rfl : (4 : Int) = r := Option.some.inj h
                            exact XS.fin [] ((True) ∧ (True)) (by kernel_rfl) ⟨trivial, trivial⟩
                          · refine TS.cond ((((b_Slots.getD x.toNat ((0 : Int), ((0 : Int), ((List.replicate 32 (0 : Int)), (List.replicate 32 (0 : Int)))))).2.2.2).getD x_4.toNat (0 : Int)) != (0 : Int)) ?_ (fun e => by rw [c24] at e; cases e) (fun e => ?_)
                            · kernel_rfl
                            refine TS.skip ?_
                            refine XS.blockEnd ?_
                            refine XS.then ?_
                            have hq : (True) ∧ ((True) ∧ (True)) := ⟨trivial, ⟨trivial, trivial⟩⟩
                            refine TS.reg [] ?_ ?_
                            · apply prop_of ?_ hq
                              kernel_rfl
                            refine XS.reAny [0, 1] (mkMask 107 [1, 3, 4, 5, 11, 12, 60]) (IntKind.wrap .i64 (x_4 + (1 : Int))) h ?_
                            kernel_rfl
                        · have hq : (True) ∧ ((True) ∧ ((inR x_4 32) ∧ ((x_4.toNat < 32 ∧ (True)) ∧ ((PureC Try.prog 19 [(.int .i64 (((b_Slots.getD x.toNat ((0 : Int), ((0 : Int), ((List.replicate 32 (0 : Int)), (List.replicate 32 (0 : Int)))))).2.2.1).getD x_4.toNat (0 : Int))), (.int .i64 (0 : Int)), (.int .i64 (3 : Int))] (.bool y_2) []) ∧ ((True) ∧ (((True) ∧ (!y_2) = false) ∧ ((True) ∧ ((True) ∧ ((inR x_4 32) ∧ ((x_4.toNat < 32 ∧ (True)) ∧ ((PureC Try.prog 19 [(.int .i64 (((b_Slots.getD x.toNat ((0 : Int), ((0 : Int), ((List.replicate 32 (0 : Int)), (List.replicate 32 (0 : Int)))))).2.2.2).getD x_4.toNat (0 : Int))), (.int .i64 (0 : Int)), (.int .i64 (65535 : Int))] (.bool y_3) []) ∧ ((True) ∧ ((True) ∧ (((True) ∧ (!y_3) = false) ∧ ((True) ∧ ((True) ∧ ((inR x_4 32) ∧ ((x_4.toNat < 32 ∧ (True)) ∧ ((True) ∧ (((True) ∧ ((((b_Slots.getD x.toNat ((0 : Int), ((0 : Int), ((List.replicate 32 (0 : Int)), (List.replicate 32 (0 : Int)))))).2.2.1).getD x_4.toNat (0 : Int)) == (0 : Int)) = false) ∧ ((True) ∧ ((True) ∧ (True))))))))))))))))))))))) := ⟨trivial, ⟨trivial, ⟨inb_ok t14, ⟨⟨inR_lt (inb_ok t14), trivial⟩, ⟨F19_ok n (((b_Slots.getD x.toNat ((0 : Int), ((0 : Int), ((List.replicate 32 (0 : Int)), (List.replicate 32 (0 : Int)))))).2.2.1).getD x_4.toNat (0 : Int)) (0 : Int) (3 : Int) y_2 hx15, ⟨trivial, ⟨⟨trivial, c17⟩, ⟨trivial, ⟨trivial, ⟨inb_ok t14, ⟨⟨inR_lt (inb_ok t14), trivial⟩, ⟨F19_ok n (((b_Slots.getD x.toNat ((0 : Int), ((0 : Int), ((List.replicate 32 (0 : Int)), (List.replicate 32 (0 : Int)))))).2.2.2).getD x_4.toNat (0 : Int)) (0 : Int) (65535 : Int) y_3 hx18, ⟨trivial, ⟨trivial, ⟨⟨trivial, c20⟩, ⟨trivial, ⟨trivial, ⟨inb_ok t14, ⟨⟨inR_lt (inb_ok t14), trivial⟩, ⟨trivial, ⟨⟨trivial, c22⟩, ⟨trivial, ⟨trivial, trivial⟩⟩⟩⟩⟩⟩⟩⟩⟩⟩⟩⟩⟩⟩⟩⟩⟩⟩⟩⟩⟩⟩⟩
                          refine TS.reg [.none, .none, .none, .none, (.call (.bool y_2) []), .none, .dec false, .none, .none, .none, .none, (.call (.bool y_3) []), .none, .none, .dec false, .none, .none, .none, .none, .none, .dec false] ?_ ?_
                          · apply prop_of ?_ hq
                            kernel_rfl
                          refine XS.then ?_
                          refine TS.no ?_ ?_
                          · kernel_rfl
                          refine TS.skip ?_
                          refine XS.blockEnd ?_
                          refine XS.then ?_
                          have hq : (True) ∧ ((True) ∧ (True)) := ⟨trivial, ⟨trivial, trivial⟩⟩
                          refine TS.reg [] ?_ ?_
                          · apply prop_of ?_ hq
                            kernel_rfl
                          refine XS.reAny [0, 1] (mkMask 107 [1, 3, 4, 5, 11, 12, 60]) (IntKind.wrap .i64 (x_4 + (1 : Int))) h ?_
                          kernel_rfl
                  · refine TS.cond (decide (x_4 < (32 : Int))) ?_ (fun e => by rw [c13] at e; cases e) (fun e => ?_)
                    · kernel_rfl
                    refine TS.exit ?_
                    refine XS.passE ?_
                    refine XS.passE ?_
                    refine XS.out ?_
                    refine XS.then ?_
                    refine TS.seq ?_
                    obtain ⟨t25, h⟩ := test_some h
                    have hq : (True) ∧ ((True) ∧ ((subC b_Slots.length none (some x)) ∧ ((True) ∧ ((True) ∧ (True))))) := ⟨trivial, ⟨trivial, ⟨subB_ok t25, ⟨trivial, ⟨trivial, trivial⟩⟩⟩⟩⟩
                    refine TS.reg [] ?_ ?_
                    · apply prop_of ?_ hq
                      kernel_rfl
                    refine XS.then ?_
                    refine TS.block ?_
                    refine TS.reLoop [0, 1] (mkMask 107 [1, 3, 5, 11, 12, 94, 95, 96]) (D := Int) (fun d => match d with | x_5 => (mkTs 107 [(1, (.pv (.st (.arr 9 (.st (.pair (.int .i64) (.pair (.int .i64) (.pair (.arr 32 (.int .i64)) (.arr 32 (.int .i64)))))) b_Slots)))), (3, (.ptr 0 [])), (5, (.ptr 1 [])), (11, (.arr 9 (.st (.pair (.int .i64) (.pair (.int .i64) (.pair (.arr 32 (.int .i64)) (.arr 32 (.int .i64)))))) b_Slots)), (12, (.int .i64 x)), (94, (.sl (.st (.pair (.int .i64) (.pair (.int .i64) (.pair (.arr 32 (.int .i64)) (.arr 32 (.int .i64)))))) (b_Slots.take x.toNat))), (95, (.int .i64 (((b_Slots.take x.toNat).length : Nat) : Int))), (96, (.int .i64 x_5))], [(.box 33 (.st (.cons (.int .i64 (0 : Int)) (.cons (.int .i64 (0 : Int)) (.cons (.arr 32 (.int .i64) (List.replicate 32 (0 : Int))) (.arr 32 (.int .i64) (List.replicate 32 (0 : Int)))))))), (.box 33 (.st (.cons (.int .i64 (b_Slots.getD x.toNat ((0 : Int), ((0 : Int), ((List.replicate 32 (0 : Int)), (List.replicate 32 (0 : Int)))))).1) (.cons (.int .i64 (b_Slots.getD x.toNat ((0 : Int), ((0 : Int), ((List.replicate 32 (0 : Int)), (List.replicate 32 (0 : Int)))))).2.1) (.cons (.arr 32 (.int .i64) (b_Slots.getD x.toNat ((0 : Int), ((0 : Int), ((List.replicate 32 (0 : Int)), (List.replicate 32 (0 : Int)))))).2.2.1) (.arr 32 (.int .i64) (b_Slots.getD x.toNat ((0 : Int), ((0 : Int), ((List.replicate 32 (0 : Int)), (List.replicate 32 (0 : Int)))))).2.2.2))))))])) (fun n' d => loopF (F18_l30 n (loopF (F18_l25 n b_Slots) n25) b_Slots x) n' d = some r) n (0 : Int) h ?_ (fun d => loopF_zero _ d r) ?_
                    · kernel_rfl
                    · rintro n30 x_5 h
                      replace h : (bif (decide (x_5 < (((b_Slots.take x.toNat).length : Nat) : Int))) then (bif inb x_5 ((b_Slots.take x.toNat).length) then (bif (((b_Slots.take x.toNat).getD x_5.toNat ((0 : Int), ((0 : Int), ((List.replicate 32 (0 : Int)), (List.replicate 32 (0 : Int)))))).2.1 == (b_Slots.getD x.toNat ((0 : Int), ((0 : Int), ((List.replicate 32 (0 : Int)), (List.replicate 32 (0 : Int)))))).2.1) then (some (4 : Int)) else ((loopF (F18_l30 n (loopF (F18_l25 n b_Slots) n25) b_Slots x) n30) (IntKind.wrap .i64 (x_5 + (1 : Int))))) else none) else ((loopF (F18_l25 n b_Slots) n25) (IntKind.wrap .i64 (x + (1 : Int))))) = some r := h
                      refine TS.seq ?_
                      have hq : (True) ∧ (True) := ⟨trivial, trivial⟩
                      refine TS.reg [] ?_ ?_
                      · apply prop_of ?_ hq
                        kernel_rfl
                      refine XS.then ?_
                      refine TS.seq ?_
                      rcases bif_some h with ⟨c26, h⟩ | ⟨c27, h⟩
                      · refine TS.cond (decide (x_5 < (((b_Slots.take x.toNat).length : Nat) : Int))) ?_ (fun e => ?_) (fun e => by rw [c26] at e; cases e)
                        · kernel_rfl
                        refine TS.skip ?_
                        refine XS.then ?_
                        refine TS.seq ?_
                        refine TS.block ?_
                        refine TS.seq ?_
                        obtain ⟨t28, h⟩ := test_some h
                        have hq : (inR x_5 ((b_Slots.take x.toNat).length)) ∧ ((True) ∧ ((True) ∧ ((True) ∧ (True)))) := ⟨inb_ok t28, ⟨trivial, ⟨trivial, ⟨trivial, trivial⟩⟩⟩⟩
                        refine TS.reg [] ?_ ?_
                        · apply prop_of ?_ hq
                          kernel_rfl
                        refine XS.then ?_
                        refine TS.seq ?_
                        have hq : (True) ∧ ((True) ∧ ((True) ∧ ((True) ∧ ((True) ∧ (True))))) := ⟨trivial, ⟨trivial, ⟨trivial, ⟨trivial, ⟨trivial, trivial⟩⟩⟩⟩⟩
                        refine TS.reg [] ?_ ?_
                        · apply prop_of ?_ hq
                          kernel_rfl
                        refine XS.then ?_
                        rcases bif_some h with ⟨c29, h⟩ | ⟨c30, h⟩
                        · refine TS.cond (((b_Slots.take x.toNat).getD x_5.toNat ((0 : Int), ((0 : Int), ((List.replicate 32 (0 : Int)), (List.replicate 32 (0 : Int)))))).2.1 == (b_Slots.getD x.toNat ((0 : Int), ((0 : Int), ((List.replicate 32 (0 : Int)), (List.replicate 32 (0 : Int)))))).2.1) ?_ (fun e => ?_) (fun e => by rw [c29] at e; cases e)
                          · kernel_rfl
                          refine TS.seq ?_
                          have hq : (True) ∧ (True) := ⟨trivial, trivial⟩
                          refine TS.reg [] ?_ ?_
                          · apply prop_of ?_ hq
                            kernel_rfl
                          refine XS.then ?_
                          refine TS.ret ?_
                          refine XS.blockRet ?_
                          refine XS.passR ?_
                          refine XS.passR ?_
                          refine XS.blockRet ?_
                          refine XS.blockRet ?_
                          refine XS.passR ?_
                          refine XS.passR ?_
                          refine XS.blockRet ?_
                          refine XS.passR ?_
                          obtain rfl : (4 : Int) = r := Option.some.inj h
                          exact XS.fin [] ((True) ∧ (True)) (by kernel_rfl) ⟨trivial, trivial⟩
                        · refine TS.cond (((b_Slots.take x.toNat).getD x_5.toNat ((0 : Int), ((0 : Int), ((List.replicate 32 (0 : Int)), (List.replicate 32 (0 : Int)))))).2.1 == (b_Slots.getD x.toNat ((0 : Int), ((0 : Int), ((List.replicate 32 (0 : Int)), (List.replicate 32 (0 : Int)))))).2.1) ?_ (fun e => by rw [c30] at e; cases e) (fun e => ?_)
                          · kernel_rfl
                          refine TS.skip ?_
                          refine XS.blockEnd ?_
                          refine XS.then ?_
                          have hq : (True) ∧ ((True) ∧ (True)) := ⟨trivial, ⟨trivial, trivial⟩⟩
                          refine TS.reg [] ?_ ?_
                          · apply prop_of ?_ hq
                            kernel_rfl
                          refine XS.reAny [0, 1] (mkMask 107 [1, 3, 5, 11, 12, 94, 95, 96]) (IntKind.wrap .i64 (x_5 + (1 : Int))) h ?_
                          kernel_rfl
                      · refine TS.cond (decide (x_5 < (((b_Slots.take x.toNat).length : Nat) : Int))) ?_ (fun e => by rw [c27] at e; cases e) (fun e => ?_)
                        · kernel_rfl
                        refine TS.exit ?_
                        refine XS.passE ?_
                        refine XS.passE ?_
                        refine XS.out ?_
                        refine XS.blockEnd ?_
                        refine XS.then ?_
                        have hq : (True) ∧ ((True) ∧ (True)) := ⟨trivial, ⟨trivial, trivial⟩⟩
                        refine TS.reg [] ?_ ?_
                        · apply prop_of ?_ hq
                          kernel_rfl
                        refine XS.reAny [0] (mkMask 107 [1, 3, 11, 12]) (IntKind.wrap .i64 (x + (1 : Int))) h ?_
                        kernel_rfl
            · obtain ⟨y_4, hx31, h⟩ := bind_some' h
              rcases bif_some h with ⟨c32, h⟩ | ⟨c33, h⟩
              · have hq : ((True) ∧ ((True) ∧ ((PureC Try.prog 19 [(.int .i64 (b_Slots.getD x.toNat ((0 : Int), ((0 : Int), ((List.replicate 32 (0 : Int)), (List.replicate 32 (0 : Int)))))).2.1), (.int .i64 (1 : Int)), (.int .i64 (127 : Int))] (.bool y_4) []) ∧ ((True) ∧ (((True) ∧ (!y_4) = true) ∧ ((True) ∧ ((True) ∧ ((True) ∧ ((True) ∧ ((True) ∧ (True))))))))))) ∧ (True) := ⟨⟨trivial, ⟨trivial, ⟨F19_ok n ((b_Slots.getD x.toNat ((0 : Int), ((0 : Int), ((List.replicate 32 (0 : Int)), (List.replicate 32 (0 : Int)))))).2.1) (1 : Int) (127 : Int) y_4 hx31, ⟨trivial, ⟨⟨trivial, c32⟩, ⟨trivial, ⟨trivial, ⟨trivial, ⟨trivial, ⟨trivial, trivial⟩⟩⟩⟩⟩⟩⟩⟩⟩⟩, trivial⟩
                refine TS.draw 24 [] [.none, .none, (.call (.bool y_4) []), .none, .dec true] (by kernel_rfl) ?_ ?_
                · apply prop_of ?_ hq
                  kernel_rfl
                refine XS.reAny [0, 1] (mkMask 107 [1, 3, 4, 5, 11, 12, 59]) true h ?_
                kernel_rfl
              · rcases bif_some h with ⟨c34, h⟩ | ⟨c35, h⟩
                · have hq : ((True) ∧ ((True) ∧ ((PureC Try.prog 19 [(.int .i64 (b_Slots.getD x.toNat ((0 : Int), ((0 : Int), ((List.replicate 32 (0 : Int)), (List.replicate 32 (0 : Int)))))).2.1), (.int .i64 (1 : Int)), (.int .i64 (127 : Int))] (.bool y_4) []) ∧ ((True) ∧ (((True) ∧ (!y_4) = false) ∧ ((True) ∧ ((inR (0 : Int) 32) ∧ ((0 < 32 ∧ (True)) ∧ ((True) ∧ ((True) ∧ (((True) ∧ ((((b_Slots.getD x.toNat ((0 : Int), ((0 : Int), ((List.replicate 32 (0 : Int)), (List.replicate 32 (0 : Int)))))).2.2.1).getD 0 (0 : Int)) != (0 : Int)) = true) ∧ ((True) ∧ ((True) ∧ ((True) ∧ (True))))))))))))))) ∧ (True) := ⟨⟨trivial, ⟨trivial, ⟨F19_ok n ((b_Slots.getD x.toNat ((0 : Int), ((0 : Int), ((List.replicate 32 (0 : Int)), (List.replicate 32 (0 : Int)))))).2.1) (1 : Int) (127 : Int) y_4 hx31, ⟨trivial, ⟨⟨trivial, c33⟩, ⟨trivial, ⟨⟨by decide, by decide⟩, ⟨⟨(by decide), trivial⟩, ⟨trivial, ⟨trivial, ⟨⟨trivial, c34⟩, ⟨trivial, ⟨trivial, ⟨trivial, trivial⟩⟩⟩⟩⟩⟩⟩⟩⟩⟩⟩⟩⟩⟩, trivial⟩
                  refine TS.draw 24 [] [.none, .none, (.call (.bool y_4) []), .none, .dec false, .none, .none, .none, .none, .none, .dec true] (by kernel_rfl) ?_ ?_
                  · apply prop_of ?_ hq
                    kernel_rfl
                  refine XS.reAny [0, 1] (mkMask 107 [1, 3, 4, 5, 11, 12, 59]) true h ?_
                  kernel_rfl
                · rcases bif_some h with ⟨c36, h⟩ | ⟨c37, h⟩
                  · have hq : ((True) ∧ ((True) ∧ ((PureC Try.prog 19 [(.int .i64 (b_Slots.getD x.toNat ((0 : Int), ((0 : Int), ((List.replicate 32 (0 : Int)), (List.replicate 32 (0 : Int)))))).2.1), (.int .i64 (1 : Int)), (.int .i64 (127 : Int))] (.bool y_4) []) ∧ ((True) ∧ (((True) ∧ (!y_4) = false) ∧ ((True) ∧ ((inR (0 : Int) 32) ∧ ((0 < 32 ∧ (True)) ∧ ((True) ∧ ((True) ∧ (((True) ∧ ((((b_Slots.getD x.toNat ((0 : Int), ((0 : Int), ((List.replicate 32 (0 : Int)), (List.replicate 32 (0 : Int)))))).2.2.1).getD 0 (0 : Int)) != (0 : Int)) = false) ∧ ((True) ∧ ((inR (1 : Int) 32) ∧ ((1 < 32 ∧ (True)) ∧ ((True) ∧ ((True) ∧ (((True) ∧ ((((b_Slots.getD x.toNat ((0 : Int), ((0 : Int), ((List.replicate 32 (0 : Int)), (List.replicate 32 (0 : Int)))))).2.2.1).getD 1 (0 : Int)) == (0 : Int)) = true) ∧ ((True) ∧ (True))))))))))))))))))) ∧ (True) := ⟨⟨trivial, ⟨trivial, ⟨F19_ok n ((b_Slots.getD x.toNat ((0 : Int), ((0 : Int), ((List.replicate 32 (0 : Int)), (List.replicate 32 (0 : Int)))))).2.1) (1 : Int) (127 : Int) y_4 hx31, ⟨trivial, ⟨⟨trivial, c33⟩, ⟨trivial, ⟨⟨by decide, by decide⟩, ⟨⟨(by decide), trivial⟩, ⟨trivial, ⟨trivial, ⟨⟨trivial, c35⟩, ⟨trivial, ⟨⟨by decide, by decide⟩, ⟨⟨(by decide), trivial⟩, ⟨trivial, ⟨trivial, ⟨⟨trivial, c36⟩, ⟨trivial, trivial⟩⟩⟩⟩⟩⟩⟩⟩⟩⟩⟩⟩⟩⟩⟩⟩⟩⟩, trivial⟩
                    refine TS.draw 24 [] [.none, .none, (.call (.bool y_4) []), .none, .dec false, .none, .none, .none, .none, .none, .dec false, .none, .none, .none, .none, .none, .dec true] (by kernel_rfl) ?_ ?_
                    · apply prop_of ?_ hq
                      kernel_rfl
                    refine XS.reAny [0, 1] (mkMask 107 [1, 3, 4, 5, 11, 12, 59]) true h ?_
                    kernel_rfl
                  · obtain ⟨y_5, hx38, h⟩ := bind_some' h
                    have hq : ((True) ∧ ((True) ∧ ((PureC Try.prog 19 [(.int .i64 (b_Slots.getD x.toNat ((0 : Int), ((0 : Int), ((List.replicate 32 (0 : Int)), (List.replicate 32 (0 : Int)))))).2.1), (.int .i64 (1 : Int)), (.int .i64 (127 : Int))] (.bool y_4) []) ∧ ((True) ∧ (((True) ∧ (!y_4) = false) ∧ ((True) ∧ ((inR (0 : Int) 32) ∧ ((0 < 32 ∧ (True)) ∧ ((True) ∧ ((True) ∧ (((True) ∧ ((((b_Slots.getD x.toNat ((0 : Int), ((0 : Int), ((List.replicate 32 (0 : Int)), (List.replicate 32 (0 : Int)))))).2.2.1).getD 0 (0 : Int)) != (0 : Int)) = false) ∧ ((True) ∧ ((inR (1 : Int) 32) ∧ ((1 < 32 ∧ (True)) ∧ ((True) ∧ ((True) ∧ (((True) ∧ ((((b_Slots.getD x.toNat ((0 : Int), ((0 : Int), ((List.replicate 32 (0 : Int)), (List.replicate 32 (0 : Int)))))).2.2.1).getD 1 (0 : Int)) == (0 : Int)) = false) ∧ ((True) ∧ ((PureC Try.prog 60 [(.st (.cons (.int .i64 (b_Slots.getD x.toNat ((0 : Int), ((0 : Int), ((List.replicate 32 (0 : Int)), (List.replicate 32 (0 : Int)))))).1) (.cons (.int .i64 (b_Slots.getD x.toNat ((0 : Int), ((0 : Int), ((List.replicate 32 (0 : Int)), (List.replicate 32 (0 : Int)))))).2.1) (.cons (.arr 32 (.int .i64) (b_Slots.getD x.toNat ((0 : Int), ((0 : Int), ((List.replicate 32 (0 : Int)), (List.replicate 32 (0 : Int)))))).2.2.1) (.arr 32 (.int .i64) (b_Slots.getD x.toNat ((0 : Int), ((0 : Int), ((List.replicate 32 (0 : Int)), (List.replicate 32 (0 : Int)))))).2.2.2))))), (.int .i64 (2 : Int)), (.int .i64 (31 : Int))] (.bool y_5) []) ∧ ((True) ∧ ((True) ∧ ((True) ∧ ((True) ∧ ((True) ∧ (True))))))))))))))))))))))))) ∧ (True) := ⟨⟨trivial, ⟨trivial, ⟨F19_ok n ((b_Slots.getD x.toNat ((0 : Int), ((0 : Int), ((List.replicate 32 (0 : Int)), (List.replicate 32 (0 : Int)))))).2.1) (1 : Int) (127 : Int) y_4 hx31, ⟨trivial, ⟨⟨trivial, c33⟩, ⟨trivial, ⟨⟨by decide, by decide⟩, ⟨⟨(by decide), trivial⟩, ⟨trivial, ⟨trivial, ⟨⟨trivial, c35⟩, ⟨trivial, ⟨⟨by decide, by decide⟩, ⟨⟨(by decide), trivial⟩, ⟨trivial, ⟨trivial, ⟨⟨trivial, c37⟩, ⟨trivial, ⟨F60_ok n ((b_Slots.getD x.toNat ((0 : Int), ((0 : Int), ((List.replicate 32 (0 : Int)), (List.replicate 32 (0 : Int)))))).1) ((b_Slots.getD x.toNat ((0 : Int), ((0 : Int), ((List.replicate 32 (0 : Int)), (List.replicate 32 (0 : Int)))))).2.1) ((b_Slots.getD x.toNat ((0 : Int), ((0 : Int), ((List.replicate 32 (0 : Int)), (List.replicate 32 (0 : Int)))))).2.2.1) ((b_Slots.getD x.toNat ((0 : Int), ((0 : Int), ((List.replicate 32 (0 : Int)), (List.replicate 32 (0 : Int)))))).2.2.2) (2 : Int) (31 : Int) y_5 hx38, ⟨trivial, ⟨trivial, ⟨trivial, ⟨trivial, ⟨trivial, trivial⟩⟩⟩⟩⟩⟩⟩⟩⟩⟩⟩⟩⟩⟩⟩⟩⟩⟩⟩⟩⟩⟩⟩⟩, trivial⟩
                    refine TS.draw 24 [] [.none, .none, (.call (.bool y_4) []), .none, .dec false, .none, .none, .none, .none, .none, .dec false, .none, .none, .none, .none, .none, .dec false, .none, (.call (.bool y_5) [])] (by kernel_rfl) ?_ ?_
                    · apply prop_of ?_ hq
                      kernel_rfl
                    refine XS.reAny [0, 1] (mkMask 107 [1, 3, 4, 5, 11, 12, 59]) (!(y_5 == ((b_Slots.getD x.toNat ((0 : Int), ((0 : Int), ((List.replicate 32 (0 : Int)), (List.replicate 32 (0 : Int)))))).1 == (3 : Int)))) h ?_
                    kernel_rfl
      · rcases bif_some h with ⟨c39, h⟩ | ⟨c40, h⟩
        · rcases bif_some h with ⟨c41, h⟩ | ⟨c42, h⟩
          · have hq : (True) ∧ ((True) ∧ (((True) ∧ (x == (0 : Int)) = true) ∧ ((True) ∧ ((True) ∧ ((True) ∧ ((True) ∧ (((True) ∧ (!(Sh.beq (.st (.pair (.int .i64) (.pair (.int .i64) (.pair (.arr 32 (.int .i64)) (.arr 32 (.int .i64)))))) ((b_Slots.getD x.toNat ((0 : Int), ((0 : Int), ((List.replicate 32 (0 : Int)), (List.replicate 32 (0 : Int)))))).1, ((b_Slots.getD x.toNat ((0 : Int), ((0 : Int), ((List.replicate 32 (0 : Int)), (List.replicate 32 (0 : Int)))))).2.1, ((b_Slots.getD x.toNat ((0 : Int), ((0 : Int), ((List.replicate 32 (0 : Int)), (List.replicate 32 (0 : Int)))))).2.2.1, (b_Slots.getD x.toNat ((0 : Int), ((0 : Int), ((List.replicate 32 (0 : Int)), (List.replicate 32 (0 : Int)))))).2.2.2))) ((0 : Int), ((0 : Int), ((List.replicate 32 (0 : Int)), (List.replicate 32 (0 : Int))))))) = true) ∧ ((True) ∧ (True))))))))) := ⟨trivial, ⟨trivial, ⟨⟨trivial, c39⟩, ⟨trivial, ⟨trivial, ⟨trivial, ⟨trivial, ⟨⟨trivial, c41⟩, ⟨trivial, trivial⟩⟩⟩⟩⟩⟩⟩⟩⟩
            refine TS.reg [.none, .none, .dec true, .none, .none, .none, .none, .dec true] ?_ ?_
            · apply prop_of ?_ hq
              kernel_rfl
            refine XS.reAny [0, 1] (mkMask 107 [1, 3, 4, 5, 11, 12, 28]) true h ?_
            kernel_rfl
          · obtain ⟨y_6, hx43, h⟩ := bind_some' h
            have hq : (True) ∧ ((True) ∧ (((True) ∧ (x == (0 : Int)) = true) ∧ ((True) ∧ ((True) ∧ ((True) ∧ ((True) ∧ (((True) ∧ (!(Sh.beq (.st (.pair (.int .i64) (.pair (.int .i64) (.pair (.arr 32 (.int .i64)) (.arr 32 (.int .i64)))))) ((b_Slots.getD x.toNat ((0 : Int), ((0 : Int), ((List.replicate 32 (0 : Int)), (List.replicate 32 (0 : Int)))))).1, ((b_Slots.getD x.toNat ((0 : Int), ((0 : Int), ((List.replicate 32 (0 : Int)), (List.replicate 32 (0 : Int)))))).2.1, ((b_Slots.getD x.toNat ((0 : Int), ((0 : Int), ((List.replicate 32 (0 : Int)), (List.replicate 32 (0 : Int)))))).2.2.1, (b_Slots.getD x.toNat ((0 : Int), ((0 : Int), ((List.replicate 32 (0 : Int)), (List.replicate 32 (0 : Int)))))).2.2.2))) ((0 : Int), ((0 : Int), ((List.replicate 32 (0 : Int)), (List.replicate 32 (0 : Int))))))) = false) ∧ ((True) ∧ ((True) ∧ ((PureC Try.prog 19 [(.int .i64 (b_Slots.getD x.toNat ((0 : Int), ((0 : Int), ((List.replicate 32 (0 : Int)), (List.replicate 32 (0 : Int)))))).1), (.int .i64 (0 : Int)), (.int .i64 (3 : Int))] (.bool y_6) []) ∧ ((True) ∧ ((True) ∧ (True))))))))))))) := ⟨trivial, ⟨trivial, ⟨⟨trivial, c39⟩, ⟨trivial, ⟨trivial, ⟨trivial, ⟨trivial, ⟨⟨trivial, c42⟩, ⟨trivial, ⟨trivial, ⟨F19_ok n ((b_Slots.getD x.toNat ((0 : Int), ((0 : Int), ((List.replicate 32 (0 : Int)), (List.replicate 32 (0 : Int)))))).1) (0 : Int) (3 : Int) y_6 hx43, ⟨trivial, ⟨trivial, trivial⟩⟩⟩⟩⟩⟩⟩⟩⟩⟩⟩⟩⟩
            refine TS.reg [.none, .none, .dec true, .none, .none, .none, .none, .dec false, .none, .none, (.call (.bool y_6) [])] ?_ ?_
            · apply prop_of ?_ hq
              kernel_rfl
            refine XS.reAny [0, 1] (mkMask 107 [1, 3, 4, 5, 11, 12, 28]) (!y_6) h ?_
            kernel_rfl
        · obtain ⟨y_7, hx44, h⟩ := bind_some' h
          have hq : (True) ∧ ((True) ∧ (((True) ∧ (x == (0 : Int)) = false) ∧ ((True) ∧ ((True) ∧ ((True) ∧ ((True) ∧ ((PureC Try.prog 19 [(.int .i64 (b_Slots.getD x.toNat ((0 : Int), ((0 : Int), ((List.replicate 32 (0 : Int)), (List.replicate 32 (0 : Int)))))).1), (.int .i64 (0 : Int)), (.int .i64 (3 : Int))] (.bool y_7) []) ∧ ((True) ∧ ((True) ∧ (True)))))))))) := ⟨trivial, ⟨trivial, ⟨⟨trivial, c40⟩, ⟨trivial, ⟨trivial, ⟨trivial, ⟨trivial, ⟨F19_ok n ((b_Slots.getD x.toNat ((0 : Int), ((0 : Int), ((List.replicate 32 (0 : Int)), (List.replicate 32 (0 : Int)))))).1) (0 : Int) (3 : Int) y_7 hx44, ⟨trivial, ⟨trivial, trivial⟩⟩⟩⟩⟩⟩⟩⟩⟩⟩
          refine TS.reg [.none, .none, .dec false, .none, .none, .none, .none, .none, .none, .none, (.call (.bool y_7) [])] ?_ ?_
          · apply prop_of ?_ hq
            kernel_rfl
          refine XS.reAny [0, 1] (mkMask 107 [1, 3, 4, 5, 11, 12, 28]) (!y_7) h ?_
          kernel_rfl
    · refine TS.cond (decide (x < (9 : Int))) ?_ (fun e => by rw [c2] at e; cases e) (fun e => ?_)
      · kernel_rfl
      refine TS.exit ?_
      refine XS.passE ?_
      refine XS.passE ?_
      refine XS.out ?_
      refine XS.then ?_
      refine TS.seq ?_
      have hq : (True) ∧ (True) := ⟨trivial, trivial⟩
      refine TS.reg [] ?_ ?_
      · apply prop_of ?_ hq
        kernel_rfl
      refine XS.then ?_
      refine TS.ret ?_
      obtain rfl : (0 : Int) = r := Option.some.inj h
      exact XS.fin [] ((True) ∧ (True)) (by kernel_rfl) ⟨trivial, trivial⟩

/-! slices.Index[[]int,int] -/
def F111_l2 (n : Nat) (s : List Int) (v : Int) (k111_2 : Int → Option Int) : Int → Option Int
  | x => (bif (decide (x < ((s.length : Nat) : Int))) then (bif inb x s.length then (bif (v == (s.getD x.toNat (0 : Int))) then (some x) else (k111_2 (IntKind.wrap .i64 (x + (1 : Int))))) else none) else (some (-1 : Int)))
def F111 (n : Nat) (s : List Int) (v : Int) : Option Int := (loopF (F111_l2 n s v) n (0 : Int))
theorem F111_ok (n : Nat) (s : List Int) (v : Int) (r : Int) (h : F111 n s v = some r) : PureC Try.prog 111 [(.sl (.int .i64) s), (.int .i64 v)] (.int .i64 r) [] := by
  refine PureC.mkS Try.func111 rfl rfl ?_
  intro w0 fz0 hfz
  replace h : (loopF (F111_l2 n s v) n (0 : Int)) = some r := h
  refine TS.seq ?_
  have hq : (True) ∧ (True) := ⟨trivial, trivial⟩
  refine TS.reg [] ?_ ?_
  · apply prop_of ?_ hq
    kernel_rfl
  refine XS.then ?_
  refine TS.seq ?_
  refine TS.seq ?_
  have hq : (True) ∧ ((True) ∧ ((True) ∧ (True))) := ⟨trivial, ⟨trivial, ⟨trivial, trivial⟩⟩⟩
  refine TS.reg [] ?_ ?_
  · apply prop_of ?_ hq
    kernel_rfl
  refine XS.then ?_
  refine TS.block ?_
  refine TS.reLoop [] (mkMask 19 [0, 1, 7, 8]) (D := Int) (fun d => match d with | x => (mkTs 19 [(0, (.sl (.int .i64) s)), (1, (.int .i64 v)), (7, (.int .i64 ((s.length : Nat) : Int))), (8, (.int .i64 x))], [])) (fun n' d => loopF (F111_l2 n s v) n' d = some r) n (0 : Int) h ?_ (fun d => loopF_zero _ d r) ?_
  · kernel_rfl
  · rintro n2 x h
    replace h : (bif (decide (x < ((s.length : Nat) : Int))) then (bif inb x s.length then (bif (v == (s.getD x.toNat (0 : Int))) then (some x) else ((loopF (F111_l2 n s v) n2) (IntKind.wrap .i64 (x + (1 : Int))))) else none) else (some (-1 : Int))) = some r := h
    refine TS.seq ?_
    have hq : (True) ∧ (True) := ⟨trivial, trivial⟩
    refine TS.reg [] ?_ ?_
    · apply prop_of ?_ hq
      kernel_rfl
    refine XS.then ?_
    refine TS.seq ?_
    rcases bif_some h with ⟨c1, h⟩ | ⟨c2, h⟩
    · refine TS.cond (decide (x < ((s.length : Nat) : Int))) ?_ (fun e => ?_) (fun e => by rw [c1] at e; cases e)
      · kernel_rfl
      refine TS.skip ?_
      refine XS.then ?_
      refine TS.seq ?_
      refine TS.block ?_
      refine TS.seq ?_
      have hq : (True) ∧ ((True) ∧ (True)) := ⟨trivial, ⟨trivial, trivial⟩⟩
      refine TS.reg [] ?_ ?_
      · apply prop_of ?_ hq
        kernel_rfl
      refine XS.then ?_
      refine TS.seq ?_
      obtain ⟨t3, h⟩ := test_some h
      have hq : (True) ∧ ((True) ∧ ((True) ∧ ((inR x s.length) ∧ ((True) ∧ ((True) ∧ (True)))))) := ⟨trivial, ⟨trivial, ⟨trivial, ⟨inb_ok t3, ⟨trivial, ⟨trivial, trivial⟩⟩⟩⟩⟩⟩
      refine TS.reg [] ?_ ?_
      · apply prop_of ?_ hq
        kernel_rfl
      refine XS.then ?_
      rcases bif_some h with ⟨c4, h⟩ | ⟨c5, h⟩
      · refine TS.cond (v == (s.getD x.toNat (0 : Int))) ?_ (fun e => ?_) (fun e => by rw [c4] at e; cases e)
        · kernel_rfl
        refine TS.seq ?_
        have hq : (True) ∧ ((True) ∧ (True)) := ⟨trivial, ⟨trivial, trivial⟩⟩
        refine TS.reg [] ?_ ?_
        · apply prop_of ?_ hq
          kernel_rfl
        refine XS.then ?_
        refine TS.ret ?_
        refine XS.blockRet ?_
        refine XS.passR ?_
        refine XS.passR ?_
        refine XS.blockRet ?_
        refine XS.passR ?_
        obtain rfl : x = r := Option.some.inj h
        exact XS.fin [] ((True) ∧ (True)) (by kernel_rfl) ⟨trivial, trivial⟩
      · refine TS.cond (v == (s.getD x.toNat (0 : Int))) ?_ (fun e => by rw [c5] at e; cases e) (fun e => ?_)
        · kernel_rfl
        refine TS.skip ?_
        refine XS.blockEnd ?_
        refine XS.then ?_
        have hq : (True) ∧ ((True) ∧ (True)) := ⟨trivial, ⟨trivial, trivial⟩⟩
        refine TS.reg [] ?_ ?_
        · apply prop_of ?_ hq
          kernel_rfl
        refine XS.reAny [] (mkMask 19 [0, 1, 7, 8]) (IntKind.wrap .i64 (x + (1 : Int))) h ?_
        kernel_rfl
    · refine TS.cond (decide (x < ((s.length : Nat) : Int))) ?_ (fun e => by rw [c2] at e; cases e) (fun e => ?_)
      · kernel_rfl
      refine TS.exit ?_
      refine XS.passE ?_
      refine XS.passE ?_
      refine XS.out ?_
      refine XS.then ?_
      refine TS.seq ?_
      have hq : (True) ∧ (True) := ⟨trivial, trivial⟩
      refine TS.reg [] ?_ ?_
      · apply prop_of ?_ hq
        kernel_rfl
      refine XS.then ?_
      refine TS.ret ?_
      obtain rfl : (-1 : Int) = r := Option.some.inj h
      exact XS.fin [] ((True) ∧ (True)) (by kernel_rfl) ⟨trivial, trivial⟩

/-! slices.Contains[[]int,int] -/
def F98 (n : Nat) (s : List Int) (v : Int) : Option Bool := ((F111 n s v).bind fun y_2 => (some (decide (y_2 ≥ (0 : Int)))))
theorem F98_ok (n : Nat) (s : List Int) (v : Int) (r : Bool) (h : F98 n s v = some r) : PureC Try.prog 98 [(.sl (.int .i64) s), (.int .i64 v)] (.bool r) [] := by
  refine PureC.mkS Try.func98 rfl rfl ?_
  intro w0 fz0 hfz
  replace h : ((F111 n s v).bind fun y_2 => (some (decide (y_2 ≥ (0 : Int))))) = some r := h
  refine TS.seq ?_
  have hq : (True) ∧ (True) := ⟨trivial, trivial⟩
  refine TS.reg [] ?_ ?_
  · apply prop_of ?_ hq
    kernel_rfl
  refine XS.then ?_
  refine TS.seq ?_
  obtain ⟨y_2, hx1, h⟩ := bind_some' h
  have hq : (True) ∧ ((True) ∧ ((PureC Try.prog 111 [(.sl (.int .i64) s), (.int .i64 v)] (.int .i64 y_2) []) ∧ ((True) ∧ ((True) ∧ (True))))) := ⟨trivial, ⟨trivial, ⟨F111_ok n s v y_2 hx1, ⟨trivial, ⟨trivial, trivial⟩⟩⟩⟩⟩
  refine TS.reg [.none, .none, (.call (.int .i64 y_2) [])] ?_ ?_
  · apply prop_of ?_ hq
    kernel_rfl
  refine XS.then ?_
  refine TS.ret ?_
  obtain rfl : (decide (y_2 ≥ (0 : Int))) = r := Option.some.inj h
  exact XS.fin [] ((True) ∧ (True)) (by kernel_rfl) ⟨trivial, trivial⟩

/-! plugtree/plugref.leastFree -/
def F86_l2 (n : Nat) (l : List Int) (k86_2 : Int → Option Int) : Int → Option Int
  | vn => ((F98 n l vn).bind fun y_2 => (bif y_2 then (k86_2 (IntKind.wrap .i64 (vn + (1 : Int)))) else (some vn)))
def F86 (n : Nat) (l : List Int) : Option Int := (loopF (F86_l2 n l) n (1 : Int))
theorem F86_ok (n : Nat) (l : List Int) (r : Int) (h : F86 n l = some r) : PureC Try.prog 86 [(.sl (.int .i64) l)] (.int .i64 r) [] := by
  refine PureC.mkS Try.func86 rfl rfl ?_
  intro w0 fz0 hfz
  replace h : (loopF (F86_l2 n l) n (1 : Int)) = some r := h
  refine TS.seq ?_
  have hq : (True) ∧ (True) := ⟨trivial, trivial⟩
  refine TS.reg [] ?_ ?_
  · apply prop_of ?_ hq
    kernel_rfl
  refine XS.then ?_
  refine TS.seq ?_
  have hq : (True) ∧ (True) := ⟨trivial, trivial⟩
  refine TS.reg [] ?_ ?_
  · apply prop_of ?_ hq
    kernel_rfl
  refine XS.then ?_
  refine TS.seq ?_
  refine TS.block ?_
  refine TS.reLoop [] (mkMask 10 [0, 3]) (D := Int) (fun d => match d with | vn => (mkTs 10 [(0, (.sl (.int .i64) l)), (3, (.int .i64 vn))], [])) (fun n' d => loopF (F86_l2 n l) n' d = some r) n (1 : Int) h ?_ (fun d => loopF_zero _ d r) ?_
  · kernel_rfl
  · rintro n2 vn h
    replace h : ((F98 n l vn).bind fun y_2 => (bif y_2 then ((loopF (F86_l2 n l) n2) (IntKind.wrap .i64 (vn + (1 : Int)))) else (some vn))) = some r := h
    refine TS.seq ?_
    refine TS.seq ?_
    obtain ⟨y_2, hx1, h⟩ := bind_some' h
    have hq : (True) ∧ ((True) ∧ ((PureC Try.prog 98 [(.sl (.int .i64) l), (.int .i64 vn)] (.bool y_2) []) ∧ (True))) := ⟨trivial, ⟨trivial, ⟨F98_ok n l vn y_2 hx1, trivial⟩⟩⟩
    refine TS.reg [.none, .none, (.call (.bool y_2) [])] ?_ ?_
    · apply prop_of ?_ hq
      kernel_rfl
    refine XS.then ?_
    rcases bif_some h with ⟨c2, h⟩ | ⟨c3, h⟩
    · refine TS.cond y_2 ?_ (fun e => ?_) (fun e => by rw [c2] at e; cases e)
      · kernel_rfl
      refine TS.skip ?_
      refine XS.then ?_
      refine TS.block ?_
      have hq : (True) ∧ ((True) ∧ ((True) ∧ (True))) := ⟨trivial, ⟨trivial, ⟨trivial, trivial⟩⟩⟩
      refine TS.reg [] ?_ ?_
      · apply prop_of ?_ hq
        kernel_rfl
      refine XS.blockEnd ?_
      refine XS.reAny [] (mkMask 10 [0, 3]) (IntKind.wrap .i64 (vn + (1 : Int))) h ?_
      kernel_rfl
    · refine TS.cond y_2 ?_ (fun e => by rw [c3] at e; cases e) (fun e => ?_)
      · kernel_rfl
      refine TS.exit ?_
      refine XS.passE ?_
      refine XS.passE ?_
      refine XS.out ?_
      refine XS.then ?_
      refine TS.seq ?_
      have hq : (True) ∧ ((True) ∧ (True)) := ⟨trivial, ⟨trivial, trivial⟩⟩
      refine TS.reg [] ?_ ?_
      · apply prop_of ?_ hq
        kernel_rfl
      refine XS.then ?_
      refine TS.ret ?_
      obtain rfl : vn = r := Option.some.inj h
      exact XS.fin [] ((True) ∧ (True)) (by kernel_rfl) ⟨trivial, trivial⟩

/-! plugtree/plugref.Two -/
def F59_l2 (n : Nat) (k : Int) (k59_2 : (Int × Int) → Option Int) : (Int × Int) → Option Int
  | (vn, x) => (bif (decide (x < k)) then (k59_2 ((IntKind.wrap .i64 (vn * (2 : Int))), (IntKind.wrap .i64 (x + (1 : Int))))) else (some vn))
def F59 (n : Nat) (k : Int) : Option Int := (loopF (F59_l2 n k) n ((1 : Int), (0 : Int)))
theorem F59_ok (n : Nat) (k : Int) (r : Int) (h : F59 n k = some r) : PureC Try.prog 59 [(.int .i64 k)] (.int .i64 r) [] := by
  refine PureC.mkS Try.func59 rfl rfl ?_
  intro w0 fz0 hfz
  replace h : (loopF (F59_l2 n k) n ((1 : Int), (0 : Int))) = some r := h
  refine TS.seq ?_
  have hq : (True) ∧ (True) := ⟨trivial, trivial⟩
  refine TS.reg [] ?_ ?_
  · apply prop_of ?_ hq
    kernel_rfl
  refine XS.then ?_
  refine TS.seq ?_
  have hq : (True) ∧ (True) := ⟨trivial, trivial⟩
  refine TS.reg [] ?_ ?_
  · apply prop_of ?_ hq
    kernel_rfl
  refine XS.then ?_
  refine TS.seq ?_
  refine TS.seq ?_
  have hq : (True) ∧ ((True) ∧ (True)) := ⟨trivial, ⟨trivial, trivial⟩⟩
  refine TS.reg [] ?_ ?_
  · apply prop_of ?_ hq
    kernel_rfl
  refine XS.then ?_
  refine TS.block ?_
  refine TS.reLoop [] (mkMask 11 [3, 4, 5]) (D := Int × Int) (fun d => match d with | (vn, x) => (mkTs 11 [(3, (.int .i64 vn)), (4, (.int .i64 k)), (5, (.int .i64 x))], [])) (fun n' d => loopF (F59_l2 n k) n' d = some r) n ((1 : Int), (0 : Int)) h ?_ (fun d => loopF_zero _ d r) ?_
  · kernel_rfl
  · rintro n2 ⟨vn, x⟩ h
    replace h : (bif (decide (x < k)) then ((loopF (F59_l2 n k) n2) ((IntKind.wrap .i64 (vn * (2 : Int))), (IntKind.wrap .i64 (x + (1 : Int))))) else (some vn)) = some r := h
    refine TS.seq ?_
    have hq : (True) ∧ (True) := ⟨trivial, trivial⟩
    refine TS.reg [] ?_ ?_
    · apply prop_of ?_ hq
      kernel_rfl
    refine XS.then ?_
    refine TS.seq ?_
    rcases bif_some h with ⟨c1, h⟩ | ⟨c2, h⟩
    · refine TS.cond (decide (x < k)) ?_ (fun e => ?_) (fun e => by rw [c1] at e; cases e)
      · kernel_rfl
      refine TS.skip ?_
      refine XS.then ?_
      refine TS.seq ?_
      refine TS.block ?_
      have hq : (True) ∧ ((True) ∧ ((True) ∧ (True))) := ⟨trivial, ⟨trivial, ⟨trivial, trivial⟩⟩⟩
      refine TS.reg [] ?_ ?_
      · apply prop_of ?_ hq
        kernel_rfl
      refine XS.blockEnd ?_
      refine XS.then ?_
      have hq : (True) ∧ ((True) ∧ (True)) := ⟨trivial, ⟨trivial, trivial⟩⟩
      refine TS.reg [] ?_ ?_
      · apply prop_of ?_ hq
        kernel_rfl
      refine XS.reAny [] (mkMask 11 [3, 4, 5]) ((IntKind.wrap .i64 (vn * (2 : Int))), (IntKind.wrap .i64 (x + (1 : Int)))) h ?_
      kernel_rfl
    · refine TS.cond (decide (x < k)) ?_ (fun e => by rw [c2] at e; cases e) (fun e => ?_)
      · kernel_rfl
      refine TS.exit ?_
      refine XS.passE ?_
      refine XS.passE ?_
      refine XS.out ?_
      refine XS.then ?_
      refine TS.seq ?_
      have hq : (True) ∧ ((True) ∧ (True)) := ⟨trivial, ⟨trivial, trivial⟩⟩
      refine TS.reg [] ?_ ?_
      · apply prop_of ?_ hq
        kernel_rfl
      refine XS.then ?_
      refine TS.ret ?_
      obtain rfl : vn = r := Option.some.inj h
      exact XS.fin [] ((True) ∧ (True)) (by kernel_rfl) ⟨trivial, trivial⟩

/-! plugtree/plugref.Configured -/
def F87_l2 (n : Nat) (s_Addr : Int) (s_Ends : List Int) (s_Marks : List Int) (set : Int) (k87_2 : (Int × Int × (List Int) × (List Int)) → Option (Int × Int × (List Int) × (List Int) × Int)) : (Int × Int × (List Int) × (List Int)) → Option (Int × Int × (List Int) × (List Int) × Int)
  | (k, m2, m2_2, m2_3) => (bif (decide (k < (32 : Int))) then ((F59 n k).bind fun y_8 => (bif (y_8 != 0) then (bif (((IntKind.wrap .i64 (set.tdiv y_8)).tmod (2 : Int)) == (1 : Int)) then (bif inb k 32 then (k87_2 ((IntKind.wrap .i64 (k + (1 : Int))), (3 : Int), (m2_2.set k.toNat (if (s_Ends.getD k.toNat (0 : Int)) > (1 : Int) then (s_Ends.getD k.toNat (0 : Int)) else (1 : Int))), (m2_3.set k.toNat (s_Marks.getD k.toNat (0 : Int))))) else none) else (k87_2 ((IntKind.wrap .i64 (k + (1 : Int))), m2, m2_2, m2_3))) else none)) else (some (m2, s_Addr, m2_2, m2_3, (1 : Int))))
def F87 (n : Nat) (s_State : Int) (s_Addr : Int) (s_Ends : List Int) (s_Marks : List Int) (set : Int) : Option (Int × Int × (List Int) × (List Int) × Int) := ((F59 n (32 : Int)).bind fun y_6 => ((F19 n set (0 : Int) (IntKind.wrap .i64 (y_6 - (1 : Int)))).bind fun y_7 => (bif (!y_7) then (some (s_State, s_Addr, s_Ends, s_Marks, (17 : Int))) else (bif ((set.tmod (4 : Int)) != (0 : Int)) then (some (s_State, s_Addr, s_Ends, s_Marks, (17 : Int))) else (bif (s_State == (1 : Int)) then (some (s_State, s_Addr, s_Ends, s_Marks, (19 : Int))) else (loopF (F87_l2 n s_Addr s_Ends s_Marks set) n ((2 : Int), (2 : Int), ((List.replicate 32 (0 : Int)).set 1 (s_Ends.getD 1 (0 : Int))), ((List.replicate 32 (0 : Int)).set 1 (s_Marks.getD 1 (0 : Int))))))))))
theorem F87_ok (n : Nat) (s_State : Int) (s_Addr : Int) (s_Ends : List Int) (s_Marks : List Int) (set : Int) (r : Int × Int × (List Int) × (List Int) × Int) (h : F87 n s_State s_Addr s_Ends s_Marks set = some r) : PureC Try.prog 87 [(.st (.cons (.int .i64 s_State) (.cons (.int .i64 s_Addr) (.cons (.arr 32 (.int .i64) s_Ends) (.arr 32 (.int .i64) s_Marks))))), (.int .i64 set)] (.tup (.cons (.st (.cons (.int .i64 r.1) (.cons (.int .i64 r.2.1) (.cons (.arr 32 (.int .i64) r.2.2.1) (.arr 32 (.int .i64) r.2.2.2.1))))) (.cons (.int .i64 r.2.2.2.2) .nil))) [] := by
  refine PureC.mkS Try.func87 rfl rfl ?_
  intro w0 fz0 hfz
  replace h : ((F59 n (32 : Int)).bind fun y_6 => ((F19 n set (0 : Int) (IntKind.wrap .i64 (y_6 - (1 : Int)))).bind fun y_7 => (bif (!y_7) then (some (s_State, s_Addr, s_Ends, s_Marks, (17 : Int))) else (bif ((set.tmod (4 : Int)) != (0 : Int)) then (some (s_State, s_Addr, s_Ends, s_Marks, (17 : Int))) else (bif (s_State == (1 : Int)) then (some (s_State, s_Addr, s_Ends, s_Marks, (19 : Int))) else (loopF (F87_l2 n s_Addr s_Ends s_Marks set) n ((2 : Int), (2 : Int), ((List.replicate 32 (0 : Int)).set 1 (s_Ends.getD 1 (0 : Int))), ((List.replicate 32 (0 : Int)).set 1 (s_Marks.getD 1 (0 : Int)))))))))) = some r := h
  refine TS.seq ?_
  have hq : (True) ∧ ((True) ∧ ((True) ∧ (True))) := ⟨trivial, ⟨trivial, ⟨trivial, trivial⟩⟩⟩
  refine TS.reg [] ?_ ?_
  · apply prop_of ?_ hq
    kernel_rfl
  refine XS.then ?_
  refine TS.seq ?_
  refine TS.seq ?_
  obtain ⟨y_6, hx1, h⟩ := bind_some' h
  obtain ⟨y_7, hx2, h⟩ := bind_some' h
  rcases bif_some h with ⟨c3, h⟩ | ⟨c4, h⟩
  · have hq : (True) ∧ ((PureC Try.prog 59 [(.int .i64 (32 : Int))] (.int .i64 y_6) []) ∧ ((True) ∧ ((PureC Try.prog 19 [(.int .i64 set), (.int .i64 (0 : Int)), (.int .i64 (IntKind.wrap .i64 (y_6 - (1 : Int))))] (.bool y_7) []) ∧ ((True) ∧ (((True) ∧ (!y_7) = true) ∧ ((True) ∧ (True))))))) := ⟨trivial, ⟨F59_ok n (32 : Int) y_6 hx1, ⟨trivial, ⟨F19_ok n set (0 : Int) (IntKind.wrap .i64 (y_6 - (1 : Int))) y_7 hx2, ⟨trivial, ⟨⟨trivial, c3⟩, ⟨trivial, trivial⟩⟩⟩⟩⟩⟩⟩
    refine TS.reg [.none, (.call (.int .i64 y_6) []), .none, (.call (.bool y_7) []), .none, .dec true] ?_ ?_
    · apply prop_of ?_ hq
      kernel_rfl
    refine XS.then ?_
    refine TS.yes ?_ ?_
    · kernel_rfl
    refine TS.seq ?_
    have hq : (True) ∧ ((True) ∧ ((True) ∧ (True))) := ⟨trivial, ⟨trivial, ⟨trivial, trivial⟩⟩⟩
    refine TS.reg [] ?_ ?_
    · apply prop_of ?_ hq
      kernel_rfl
    refine XS.then ?_
    refine TS.ret ?_
    refine XS.passR ?_
    obtain rfl : (s_State, s_Addr, s_Ends, s_Marks, (17 : Int)) = r := Option.some.inj h
    exact XS.fin [] ((True) ∧ ((True) ∧ (True))) (by kernel_rfl) ⟨trivial, ⟨trivial, trivial⟩⟩
  · have hq : (True) ∧ ((PureC Try.prog 59 [(.int .i64 (32 : Int))] (.int .i64 y_6) []) ∧ ((True) ∧ ((PureC Try.prog 19 [(.int .i64 set), (.int .i64 (0 : Int)), (.int .i64 (IntKind.wrap .i64 (y_6 - (1 : Int))))] (.bool y_7) []) ∧ ((True) ∧ (((True) ∧ (!y_7) = false) ∧ ((True) ∧ (((4 : Int) ≠ 0) ∧ ((True) ∧ ((True) ∧ (True)))))))))) := ⟨trivial, ⟨F59_ok n (32 : Int) y_6 hx1, ⟨trivial, ⟨F19_ok n set (0 : Int) (IntKind.wrap .i64 (y_6 - (1 : Int))) y_7 hx2, ⟨trivial, ⟨⟨trivial, c4⟩, ⟨trivial, ⟨by decide, ⟨trivial, ⟨trivial, trivial⟩⟩⟩⟩⟩⟩⟩⟩⟩⟩
    refine TS.reg [.none, (.call (.int .i64 y_6) []), .none, (.call (.bool y_7) []), .none, .dec false] ?_ ?_
    · apply prop_of ?_ hq
      kernel_rfl
    refine XS.then ?_
    rcases bif_some h with ⟨c5, h⟩ | ⟨c6, h⟩
    · refine TS.cond ((set.tmod (4 : Int)) != (0 : Int)) ?_ (fun e => ?_) (fun e => by rw [c5] at e; cases e)
      · kernel_rfl
      refine TS.seq ?_
      have hq : (True) ∧ ((True) ∧ ((True) ∧ (True))) := ⟨trivial, ⟨trivial, ⟨trivial, trivial⟩⟩⟩
      refine TS.reg [] ?_ ?_
      · apply prop_of ?_ hq
        kernel_rfl
      refine XS.then ?_
      refine TS.ret ?_
      refine XS.passR ?_
      obtain rfl : (s_State, s_Addr, s_Ends, s_Marks, (17 : Int)) = r := Option.some.inj h
      exact XS.fin [] ((True) ∧ ((True) ∧ (True))) (by kernel_rfl) ⟨trivial, ⟨trivial, trivial⟩⟩
    · refine TS.cond ((set.tmod (4 : Int)) != (0 : Int)) ?_ (fun e => by rw [c6] at e; cases e) (fun e => ?_)
      · kernel_rfl
      refine TS.skip ?_
      refine XS.then ?_
      refine TS.seq ?_
      refine TS.seq ?_
      have hq : (True) ∧ ((True) ∧ ((True) ∧ (True))) := ⟨trivial, ⟨trivial, ⟨trivial, trivial⟩⟩⟩
      refine TS.reg [] ?_ ?_
      · apply prop_of ?_ hq
        kernel_rfl
      refine XS.then ?_
      rcases bif_some h with ⟨c7, h⟩ | ⟨c8, h⟩
      · refine TS.cond (s_State == (1 : Int)) ?_ (fun e => ?_) (fun e => by rw [c7] at e; cases e)
        · kernel_rfl
        refine TS.seq ?_
        have hq : (True) ∧ ((True) ∧ ((True) ∧ (True))) := ⟨trivial, ⟨trivial, ⟨trivial, trivial⟩⟩⟩
        refine TS.reg [] ?_ ?_
        · apply prop_of ?_ hq
          kernel_rfl
        refine XS.then ?_
        refine TS.ret ?_
        refine XS.passR ?_
        obtain rfl : (s_State, s_Addr, s_Ends, s_Marks, (19 : Int)) = r := Option.some.inj h
        exact XS.fin [] ((True) ∧ ((True) ∧ (True))) (by kernel_rfl) ⟨trivial, ⟨trivial, trivial⟩⟩
      · refine TS.cond (s_State == (1 : Int)) ?_ (fun e => by rw [c8] at e; cases e) (fun e => ?_)
        · kernel_rfl
        refine TS.skip ?_
        refine XS.then ?_
        refine TS.seq ?_
        have hq : (True) ∧ ((True) ∧ (((True) ∧ ((True) ∧ (True))) ∧ ((True) ∧ ((True) ∧ (True))))) := ⟨trivial, ⟨trivial, ⟨⟨trivial, ⟨trivial, trivial⟩⟩, ⟨trivial, ⟨trivial, trivial⟩⟩⟩⟩⟩
        refine TS.reg [] ?_ ?_
        · apply prop_of ?_ hq
          kernel_rfl
        refine XS.then ?_
        refine TS.seq ?_
        have hq : ((True) ∧ ((inR (1 : Int) 32) ∧ ((1 < 32 ∧ (True)) ∧ ((True) ∧ ((inR (1 : Int) 32) ∧ ((1 < 32 ∧ (True)) ∧ ((True) ∧ ((inR (1 : Int) 32) ∧ ((1 < 32 ∧ (True)) ∧ ((True) ∧ ((inR (1 : Int) 32) ∧ (True)))))))))))) ∧ ((1 < 32 ∧ (True)) ∧ (True)) := ⟨⟨trivial, ⟨⟨by decide, by decide⟩, ⟨⟨(by decide), trivial⟩, ⟨trivial, ⟨⟨by decide, by decide⟩, ⟨⟨(by decide), trivial⟩, ⟨trivial, ⟨⟨by decide, by decide⟩, ⟨⟨(by decide), trivial⟩, ⟨trivial, ⟨⟨by decide, by decide⟩, trivial⟩⟩⟩⟩⟩⟩⟩⟩⟩⟩⟩, ⟨⟨(by decide), trivial⟩, trivial⟩⟩
        refine TS.draw 11 [(8, 2)] [] (by kernel_rfl) ?_ ?_
        · apply prop_of ?_ hq
          kernel_rfl
        refine XS.then ?_
        refine TS.seq ?_
        refine TS.seq ?_
        have hq : (True) ∧ (True) := ⟨trivial, trivial⟩
        refine TS.reg [] ?_ ?_
        · apply prop_of ?_ hq
          kernel_rfl
        refine XS.then ?_
        refine TS.block ?_
        refine TS.reLoop [0, 1, 2] (mkMask 63 [1, 2, 4, 6, 7]) (D := Int × Int × (List Int) × (List Int)) (fun d => match d with | (k, m2, m2_2, m2_3) => (mkTs 63 [(1, (.int .i64 set)), (2, (.ptr 0 [])), (4, (.ptr 1 [])), (6, (.ptr 2 [])), (7, (.int .i64 k))], [(.box 33 (.st (.cons (.int .i64 s_State) (.cons (.int .i64 s_Addr) (.cons (.arr 32 (.int .i64) s_Ends) (.arr 32 (.int .i64) s_Marks)))))), (.box 33 (.st (.cons (.int .i64 (0 : Int)) (.cons (.int .i64 (0 : Int)) (.cons (.arr 32 (.int .i64) (List.replicate 32 (0 : Int))) (.arr 32 (.int .i64) (List.replicate 32 (0 : Int)))))))), (.box 33 (.st (.cons (.int .i64 m2) (.cons (.int .i64 s_Addr) (.cons (.arr 32 (.int .i64) m2_2) (.arr 32 (.int .i64) m2_3))))))])) (fun n' d => loopF (F87_l2 n s_Addr s_Ends s_Marks set) n' d = some r) n ((2 : Int), (2 : Int), ((List.replicate 32 (0 : Int)).set 1 (s_Ends.getD 1 (0 : Int))), ((List.replicate 32 (0 : Int)).set 1 (s_Marks.getD 1 (0 : Int)))) h ?_ (fun d => loopF_zero _ d r) ?_
        · kernel_rfl
        · rintro n2 ⟨k, m2, m2_2, m2_3⟩ h
          replace h : (bif (decide (k < (32 : Int))) then ((F59 n k).bind fun y_8 => (bif (y_8 != 0) then (bif (((IntKind.wrap .i64 (set.tdiv y_8)).tmod (2 : Int)) == (1 : Int)) then (bif inb k 32 then ((loopF (F87_l2 n s_Addr s_Ends s_Marks set) n2) ((IntKind.wrap .i64 (k + (1 : Int))), (3 : Int), (m2_2.set k.toNat (if (s_Ends.getD k.toNat (0 : Int)) > (1 : Int) then (s_Ends.getD k.toNat (0 : Int)) else (1 : Int))), (m2_3.set k.toNat (s_Marks.getD k.toNat (0 : Int))))) else none) else ((loopF (F87_l2 n s_Addr s_Ends s_Marks set) n2) ((IntKind.wrap .i64 (k + (1 : Int))), m2, m2_2, m2_3))) else none)) else (some (m2, s_Addr, m2_2, m2_3, (1 : Int)))) = some r := h
          refine TS.seq ?_
          refine TS.seq ?_
          have hq : (True) ∧ ((True) ∧ (True)) := ⟨trivial, ⟨trivial, trivial⟩⟩
          refine TS.reg [] ?_ ?_
          · apply prop_of ?_ hq
            kernel_rfl
          refine XS.then ?_
          rcases bif_some h with ⟨c9, h⟩ | ⟨c10, h⟩
          · refine TS.cond (decide (k < (32 : Int))) ?_ (fun e => ?_) (fun e => by rw [c9] at e; cases e)
            · kernel_rfl
            refine TS.skip ?_
            refine XS.then ?_
            refine TS.seq ?_
            refine TS.block ?_
            refine TS.seq ?_
            obtain ⟨y_8, hx11, h⟩ := bind_some' h
            obtain ⟨t12, h⟩ := test_some h
            have hq : (True) ∧ ((True) ∧ ((PureC Try.prog 59 [(.int .i64 k)] (.int .i64 y_8) []) ∧ ((y_8 ≠ 0) ∧ (((2 : Int) ≠ 0) ∧ ((True) ∧ (True)))))) := ⟨trivial, ⟨trivial, ⟨F59_ok n k y_8 hx11, ⟨bne_ok t12, ⟨by decide, ⟨trivial, trivial⟩⟩⟩⟩⟩⟩
            refine TS.reg [.none, .none, (.call (.int .i64 y_8) [])] ?_ ?_
            · apply prop_of ?_ hq
              kernel_rfl
            refine XS.then ?_
            rcases bif_some h with ⟨c13, h⟩ | ⟨c14, h⟩
            · refine TS.cond (((IntKind.wrap .i64 (set.tdiv y_8)).tmod (2 : Int)) == (1 : Int)) ?_ (fun e => ?_) (fun e => by rw [c13] at e; cases e)
              · kernel_rfl
              obtain ⟨t15, h⟩ := test_some h
              have hq : ((True) ∧ ((True) ∧ ((True) ∧ ((True) ∧ ((inR k 32) ∧ ((k.toNat < 32 ∧ (True)) ∧ ((True) ∧ ((True) ∧ ((True) ∧ ((inR k 32) ∧ ((k.toNat < 32 ∧ (True)) ∧ ((True) ∧ ((True) ∧ ((True) ∧ ((inR k 32) ∧ ((k.toNat < 32 ∧ (True)) ∧ ((True) ∧ ((inR k 32) ∧ (True))))))))))))))))))) ∧ ((k.toNat < 32 ∧ (True)) ∧ (True)) := ⟨⟨trivial, ⟨trivial, ⟨trivial, ⟨trivial, ⟨inb_ok t15, ⟨⟨inR_lt (inb_ok t15), trivial⟩, ⟨trivial, ⟨trivial, ⟨trivial, ⟨inb_ok t15, ⟨⟨inR_lt (inb_ok t15), trivial⟩, ⟨trivial, ⟨trivial, ⟨trivial, ⟨inb_ok t15, ⟨⟨inR_lt (inb_ok t15), trivial⟩, ⟨trivial, ⟨inb_ok t15, trivial⟩⟩⟩⟩⟩⟩⟩⟩⟩⟩⟩⟩⟩⟩⟩⟩⟩⟩, ⟨⟨inR_lt (inb_ok t15), trivial⟩, trivial⟩⟩
              refine TS.draw 18 [(12, 2), (15, 2)] [] (by kernel_rfl) ?_ ?_
              · apply prop_of ?_ hq
                kernel_rfl
              refine XS.blockEnd ?_
              refine XS.then ?_
              have hq : (True) ∧ ((True) ∧ ((True) ∧ (True))) := ⟨trivial, ⟨trivial, ⟨trivial, trivial⟩⟩⟩
              refine TS.reg [] ?_ ?_
              · apply prop_of ?_ hq
                kernel_rfl
              refine XS.reAny [0, 1, 2] (mkMask 63 [1, 2, 4, 6, 7]) ((IntKind.wrap .i64 (k + (1 : Int))), (3 : Int), (m2_2.set k.toNat (if (s_Ends.getD k.toNat (0 : Int)) > (1 : Int) then (s_Ends.getD k.toNat (0 : Int)) else (1 : Int))), (m2_3.set k.toNat (s_Marks.getD k.toNat (0 : Int)))) h ?_
              kernel_rfl
            · refine TS.cond (((IntKind.wrap .i64 (set.tdiv y_8)).tmod (2 : Int)) == (1 : Int)) ?_ (fun e => by rw [c14] at e; cases e) (fun e => ?_)
              · kernel_rfl
              refine TS.skip ?_
              refine XS.blockEnd ?_
              refine XS.then ?_
              have hq : (True) ∧ ((True) ∧ ((True) ∧ (True))) := ⟨trivial, ⟨trivial, ⟨trivial, trivial⟩⟩⟩
              refine TS.reg [] ?_ ?_
              · apply prop_of ?_ hq
                kernel_rfl
              refine XS.reAny [0, 1, 2] (mkMask 63 [1, 2, 4, 6, 7]) ((IntKind.wrap .i64 (k + (1 : Int))), m2, m2_2, m2_3) h ?_
              kernel_rfl
          · refine TS.cond (decide (k < (32 : Int))) ?_ (fun e => by rw [c10] at e; cases e) (fun e => ?_)
            · kernel_rfl
            refine TS.exit ?_
            refine XS.passE ?_
            refine XS.passE ?_
            refine XS.out ?_
            refine XS.then ?_
            refine TS.seq ?_
            have hq : (True) ∧ ((True) ∧ ((True) ∧ (True))) := ⟨trivial, ⟨trivial, ⟨trivial, trivial⟩⟩⟩
            refine TS.reg [] ?_ ?_
            · apply prop_of ?_ hq
              kernel_rfl
            refine XS.then ?_
            refine TS.ret ?_
            obtain rfl : (m2, s_Addr, m2_2, m2_3, (1 : Int)) = r := Option.some.inj h
            exact XS.fin [] ((True) ∧ ((True) ∧ (True))) (by kernel_rfl) ⟨trivial, ⟨trivial, trivial⟩⟩

/-! plugtree/plugref.EndDone -/
def F88_j13 (n : Nat) (s_State : Int) (s_Addr : Int) (s_Ends : List Int) (s_Marks : List Int) (c_End : Int) (c_Arg : Int) : Int → Option (Int × Int × (List Int) × (List Int) × Int)
  | to => (some (s_State, s_Addr, (s_Ends.set c_End.toNat to), (s_Marks.set c_End.toNat c_Arg), (1 : Int)))
def F88_j15 (n : Nat) (s_State : Int) (s_Addr : Int) (s_Ends : List Int) (s_Marks : List Int) (c_End : Int) (c_Arg : Int) : Bool → Option (Int × Int × (List Int) × (List Int) × Int)
  | x_2 => (bif x_2 then (F88_j13 n s_State s_Addr s_Ends s_Marks c_End c_Arg (1 : Int)) else (some (s_State, s_Addr, s_Ends, s_Marks, (19 : Int))))
def F88_j14 (n : Nat) (s_State : Int) (s_Addr : Int) (s_Ends : List Int) (s_Marks : List Int) (c_Kind : Int) (c_End : Int) (c_Arg : Int) : Bool → Option (Int × Int × (List Int) × (List Int) × Int)
  | x => (bif x then (F88_j13 n s_State s_Addr s_Ends s_Marks c_End c_Arg (3 : Int)) else (bif ((IntKind.wrap .i64 ((IntKind.wrap .i64 ((10 : Int) * c_Kind)) + (s_Ends.getD c_End.toNat (0 : Int)))) == (91 : Int)) then (F88_j15 n s_State s_Addr s_Ends s_Marks c_End c_Arg ((IntKind.wrap .i64 ((IntKind.wrap .i64 ((10 : Int) * c_Kind)) + (s_Ends.getD c_End.toNat (0 : Int)))) == (91 : Int))) else (F88_j15 n s_State s_Addr s_Ends s_Marks c_End c_Arg ((IntKind.wrap .i64 ((IntKind.wrap .i64 ((10 : Int) * c_Kind)) + (s_Ends.getD c_End.toNat (0 : Int)))) == (93 : Int)))))
def F88_j18 (n : Nat) (s_State : Int) (s_Addr : Int) (s_Ends : List Int) (s_Marks : List Int) (c_End : Int) : Int → Option (Int × Int × (List Int) × (List Int) × Int)
  | to_2 => (some (s_State, s_Addr, (s_Ends.set c_End.toNat to_2), s_Marks, (1 : Int)))
def F88_j20 (n : Nat) (s_State : Int) (s_Addr : Int) (s_Ends : List Int) (s_Marks : List Int) (c_End : Int) : Bool → Option (Int × Int × (List Int) × (List Int) × Int)
  | x_4 => (bif x_4 then (F88_j18 n s_State s_Addr s_Ends s_Marks c_End (1 : Int)) else (some (s_State, s_Addr, s_Ends, s_Marks, (19 : Int))))
def F88_j19 (n : Nat) (s_State : Int) (s_Addr : Int) (s_Ends : List Int) (s_Marks : List Int) (c_Kind : Int) (c_End : Int) : Bool → Option (Int × Int × (List Int) × (List Int) × Int)
  | x_3 => (bif x_3 then (F88_j18 n s_State s_Addr s_Ends s_Marks c_End (3 : Int)) else (bif ((IntKind.wrap .i64 ((IntKind.wrap .i64 ((10 : Int) * c_Kind)) + (s_Ends.getD c_End.toNat (0 : Int)))) == (91 : Int)) then (F88_j20 n s_State s_Addr s_Ends s_Marks c_End ((IntKind.wrap .i64 ((IntKind.wrap .i64 ((10 : Int) * c_Kind)) + (s_Ends.getD c_End.toNat (0 : Int)))) == (91 : Int))) else (F88_j20 n s_State s_Addr s_Ends s_Marks c_End ((IntKind.wrap .i64 ((IntKind.wrap .i64 ((10 : Int) * c_Kind)) + (s_Ends.getD c_End.toNat (0 : Int)))) == (93 : Int)))))
def F88 (n : Nat) (s_State : Int) (s_Addr : Int) (s_Ends : List Int) (s_Marks : List Int) (c_Kind : Int) (c_Slot : Int) (c_End : Int) (c_Arg : Int) : Option (Int × Int × (List Int) × (List Int) × Int) := ((F19 n c_End (1 : Int) (31 : Int)).bind fun y_6 => (bif (!y_6) then (some (s_State, s_Addr, s_Ends, s_Marks, (5 : Int))) else (bif inb c_End 32 then (bif ((s_Ends.getD c_End.toNat (0 : Int)) == (0 : Int)) then (some (s_State, s_Addr, s_Ends, s_Marks, (12 : Int))) else (bif (c_Kind == (8 : Int)) then ((F19 n c_Arg (0 : Int) (65535 : Int)).bind fun y_7 => (bif (!y_7) then (some (s_State, s_Addr, s_Ends, s_Marks, (17 : Int))) else (bif ((IntKind.wrap .i64 ((IntKind.wrap .i64 ((10 : Int) * c_Kind)) + (s_Ends.getD c_End.toNat (0 : Int)))) == (62 : Int)) then (F88_j14 n s_State s_Addr s_Ends s_Marks c_Kind c_End c_Arg ((IntKind.wrap .i64 ((IntKind.wrap .i64 ((10 : Int) * c_Kind)) + (s_Ends.getD c_End.toNat (0 : Int)))) == (62 : Int))) else (bif ((IntKind.wrap .i64 ((IntKind.wrap .i64 ((10 : Int) * c_Kind)) + (s_Ends.getD c_End.toNat (0 : Int)))) == (71 : Int)) then (F88_j14 n s_State s_Addr s_Ends s_Marks c_Kind c_End c_Arg ((IntKind.wrap .i64 ((IntKind.wrap .i64 ((10 : Int) * c_Kind)) + (s_Ends.getD c_End.toNat (0 : Int)))) == (71 : Int))) else (F88_j14 n s_State s_Addr s_Ends s_Marks c_Kind c_End c_Arg ((IntKind.wrap .i64 ((IntKind.wrap .i64 ((10 : Int) * c_Kind)) + (s_Ends.getD c_End.toNat (0 : Int)))) == (83 : Int))))))) else (bif ((IntKind.wrap .i64 ((IntKind.wrap .i64 ((10 : Int) * c_Kind)) + (s_Ends.getD c_End.toNat (0 : Int)))) == (62 : Int)) then (F88_j19 n s_State s_Addr s_Ends s_Marks c_Kind c_End ((IntKind.wrap .i64 ((IntKind.wrap .i64 ((10 : Int) * c_Kind)) + (s_Ends.getD c_End.toNat (0 : Int)))) == (62 : Int))) else (bif ((IntKind.wrap .i64 ((IntKind.wrap .i64 ((10 : Int) * c_Kind)) + (s_Ends.getD c_End.toNat (0 : Int)))) == (71 : Int)) then (F88_j19 n s_State s_Addr s_Ends s_Marks c_Kind c_End ((IntKind.wrap .i64 ((IntKind.wrap .i64 ((10 : Int) * c_Kind)) + (s_Ends.getD c_End.toNat (0 : Int)))) == (71 : Int))) else (F88_j19 n s_State s_Addr s_Ends s_Marks c_Kind c_End ((IntKind.wrap .i64 ((IntKind.wrap .i64 ((10 : Int) * c_Kind)) + (s_Ends.getD c_End.toNat (0 : Int)))) == (83 : Int))))))) else none)))
theorem F88_ok (n : Nat) (s_State : Int) (s_Addr : Int) (s_Ends : List Int) (s_Marks : List Int) (c_Kind : Int) (c_Slot : Int) (c_End : Int) (c_Arg : Int) (r : Int × Int × (List Int) × (List Int) × Int) (h : F88 n s_State s_Addr s_Ends s_Marks c_Kind c_Slot c_End c_Arg = some r) : PureC Try.prog 88 [(.st (.cons (.int .i64 s_State) (.cons (.int .i64 s_Addr) (.cons (.arr 32 (.int .i64) s_Ends) (.arr 32 (.int .i64) s_Marks))))), (.st (.cons (.int .i64 c_Kind) (.cons (.int .i64 c_Slot) (.cons (.int .i64 c_End) (.int .i64 c_Arg)))))] (.tup (.cons (.st (.cons (.int .i64 r.1) (.cons (.int .i64 r.2.1) (.cons (.arr 32 (.int .i64) r.2.2.1) (.arr 32 (.int .i64) r.2.2.2.1))))) (.cons (.int .i64 r.2.2.2.2) .nil))) [] := by
  refine PureC.mkS Try.func88 rfl rfl ?_
  intro w0 fz0 hfz
  replace h : ((F19 n c_End (1 : Int) (31 : Int)).bind fun y_6 => (bif (!y_6) then (some (s_State, s_Addr, s_Ends, s_Marks, (5 : Int))) else (bif inb c_End 32 then (bif ((s_Ends.getD c_End.toNat (0 : Int)) == (0 : Int)) then (some (s_State, s_Addr, s_Ends, s_Marks, (12 : Int))) else (bif (c_Kind == (8 : Int)) then ((F19 n c_Arg (0 : Int) (65535 : Int)).bind fun y_7 => (bif (!y_7) then (some (s_State, s_Addr, s_Ends, s_Marks, (17 : Int))) else (bif ((IntKind.wrap .i64 ((IntKind.wrap .i64 ((10 : Int) * c_Kind)) + (s_Ends.getD c_End.toNat (0 : Int)))) == (62 : Int)) then (F88_j14 n s_State s_Addr s_Ends s_Marks c_Kind c_End c_Arg ((IntKind.wrap .i64 ((IntKind.wrap .i64 ((10 : Int) * c_Kind)) + (s_Ends.getD c_End.toNat (0 : Int)))) == (62 : Int))) else (bif ((IntKind.wrap .i64 ((IntKind.wrap .i64 ((10 : Int) * c_Kind)) + (s_Ends.getD c_End.toNat (0 : Int)))) == (71 : Int)) then (F88_j14 n s_State s_Addr s_Ends s_Marks c_Kind c_End c_Arg ((IntKind.wrap .i64 ((IntKind.wrap .i64 ((10 : Int) * c_Kind)) + (s_Ends.getD c_End.toNat (0 : Int)))) == (71 : Int))) else (F88_j14 n s_State s_Addr s_Ends s_Marks c_Kind c_End c_Arg ((IntKind.wrap .i64 ((IntKind.wrap .i64 ((10 : Int) * c_Kind)) + (s_Ends.getD c_End.toNat (0 : Int)))) == (83 : Int))))))) else (bif ((IntKind.wrap .i64 ((IntKind.wrap .i64 ((10 : Int) * c_Kind)) + (s_Ends.getD c_End.toNat (0 : Int)))) == (62 : Int)) then (F88_j19 n s_State s_Addr s_Ends s_Marks c_Kind c_End ((IntKind.wrap .i64 ((IntKind.wrap .i64 ((10 : Int) * c_Kind)) + (s_Ends.getD c_End.toNat (0 : Int)))) == (62 : Int))) else (bif ((IntKind.wrap .i64 ((IntKind.wrap .i64 ((10 : Int) * c_Kind)) + (s_Ends.getD c_End.toNat (0 : Int)))) == (71 : Int)) then (F88_j19 n s_State s_Addr s_Ends s_Marks c_Kind c_End ((IntKind.wrap .i64 ((IntKind.wrap .i64 ((10 : Int) * c_Kind)) + (s_Ends.getD c_End.toNat (0 : Int)))) == (71 : Int))) else (F88_j19 n s_State s_Addr s_Ends s_Marks c_Kind c_End ((IntKind.wrap .i64 ((IntKind.wrap .i64 ((10 : Int) * c_Kind)) + (s_Ends.getD c_End.toNat (0 : Int)))) == (83 : Int))))))) else none))) = some r := h
  refine TS.seq ?_
  have hq : (True) ∧ ((True) ∧ ((True) ∧ ((True) ∧ (True)))) := ⟨trivial, ⟨trivial, ⟨trivial, ⟨trivial, trivial⟩⟩⟩⟩
  refine TS.reg [] ?_ ?_
  · apply prop_of ?_ hq
    kernel_rfl
  refine XS.then ?_
  refine TS.seq ?_
  refine TS.seq ?_
  obtain ⟨y_6, hx1, h⟩ := bind_some' h
  have hq : (True) ∧ ((True) ∧ ((PureC Try.prog 19 [(.int .i64 c_End), (.int .i64 (1 : Int)), (.int .i64 (31 : Int))] (.bool y_6) []) ∧ ((True) ∧ (True)))) := ⟨trivial, ⟨trivial, ⟨F19_ok n c_End (1 : Int) (31 : Int) y_6 hx1, ⟨trivial, trivial⟩⟩⟩⟩
  refine TS.reg [.none, .none, (.call (.bool y_6) [])] ?_ ?_
  · apply prop_of ?_ hq
    kernel_rfl
  refine XS.then ?_
  rcases bif_some h with ⟨c2, h⟩ | ⟨c3, h⟩
  · refine TS.cond (!y_6) ?_ (fun e => ?_) (fun e => by rw [c2] at e; cases e)
    · kernel_rfl
    refine TS.seq ?_
    have hq : (True) ∧ ((True) ∧ ((True) ∧ (True))) := ⟨trivial, ⟨trivial, ⟨trivial, trivial⟩⟩⟩
    refine TS.reg [] ?_ ?_
    · apply prop_of ?_ hq
      kernel_rfl
    refine XS.then ?_
    refine TS.ret ?_
    refine XS.passR ?_
    obtain rfl : (s_State, s_Addr, s_Ends, s_Marks, (5 : Int)) = r := Option.some.inj h
    exact XS.fin [] ((True) ∧ ((True) ∧ (True))) (by kernel_rfl) ⟨trivial, ⟨trivial, trivial⟩⟩
  · refine TS.cond (!y_6) ?_ (fun e => by rw [c3] at e; cases e) (fun e => ?_)
    · kernel_rfl
    refine TS.skip ?_
    refine XS.then ?_
    refine TS.seq ?_
    refine TS.seq ?_
    obtain ⟨t4, h⟩ := test_some h
    have hq : (True) ∧ ((True) ∧ ((True) ∧ ((inR c_End 32) ∧ ((c_End.toNat < 32 ∧ (True)) ∧ ((True) ∧ (True)))))) := ⟨trivial, ⟨trivial, ⟨trivial, ⟨inb_ok t4, ⟨⟨inR_lt (inb_ok t4), trivial⟩, ⟨trivial, trivial⟩⟩⟩⟩⟩⟩
    refine TS.reg [] ?_ ?_
    · apply prop_of ?_ hq
      kernel_rfl
    refine XS.then ?_
    rcases bif_some h with ⟨c5, h⟩ | ⟨c6, h⟩
    · refine TS.cond ((s_Ends.getD c_End.toNat (0 : Int)) == (0 : Int)) ?_ (fun e => ?_) (fun e => by rw [c5] at e; cases e)
      · kernel_rfl
      refine TS.seq ?_
      have hq : (True) ∧ ((True) ∧ ((True) ∧ (True))) := ⟨trivial, ⟨trivial, ⟨trivial, trivial⟩⟩⟩
      refine TS.reg [] ?_ ?_
      · apply prop_of ?_ hq
        kernel_rfl
      refine XS.then ?_
      refine TS.ret ?_
      refine XS.passR ?_
      obtain rfl : (s_State, s_Addr, s_Ends, s_Marks, (12 : Int)) = r := Option.some.inj h
      exact XS.fin [] ((True) ∧ ((True) ∧ (True))) (by kernel_rfl) ⟨trivial, ⟨trivial, trivial⟩⟩
    · refine TS.cond ((s_Ends.getD c_End.toNat (0 : Int)) == (0 : Int)) ?_ (fun e => by rw [c6] at e; cases e) (fun e => ?_)
      · kernel_rfl
      refine TS.skip ?_
      refine XS.then ?_
      refine TS.seq ?_
      refine TS.seq ?_
      rcases bif_some h with ⟨c7, h⟩ | ⟨c8, h⟩
      · obtain ⟨y_7, hx9, h⟩ := bind_some' h
        have hq : (True) ∧ ((True) ∧ ((True) ∧ (((True) ∧ (c_Kind == (8 : Int)) = true) ∧ ((True) ∧ ((True) ∧ ((PureC Try.prog 19 [(.int .i64 c_Arg), (.int .i64 (0 : Int)), (.int .i64 (65535 : Int))] (.bool y_7) []) ∧ ((True) ∧ ((True) ∧ (True))))))))) := ⟨trivial, ⟨trivial, ⟨trivial, ⟨⟨trivial, c7⟩, ⟨trivial, ⟨trivial, ⟨F19_ok n c_Arg (0 : Int) (65535 : Int) y_7 hx9, ⟨trivial, ⟨trivial, trivial⟩⟩⟩⟩⟩⟩⟩⟩⟩
        refine TS.reg [.none, .none, .none, .dec true, .none, .none, (.call (.bool y_7) [])] ?_ ?_
        · apply prop_of ?_ hq
          kernel_rfl
        refine XS.then ?_
        rcases bif_some h with ⟨c10, h⟩ | ⟨c11, h⟩
        · refine TS.cond (!y_7) ?_ (fun e => ?_) (fun e => by rw [c10] at e; cases e)
          · kernel_rfl
          refine TS.seq ?_
          have hq : (True) ∧ ((True) ∧ ((True) ∧ (True))) := ⟨trivial, ⟨trivial, ⟨trivial, trivial⟩⟩⟩
          refine TS.reg [] ?_ ?_
          · apply prop_of ?_ hq
            kernel_rfl
          refine XS.then ?_
          refine TS.ret ?_
          refine XS.passR ?_
          obtain rfl : (s_State, s_Addr, s_Ends, s_Marks, (17 : Int)) = r := Option.some.inj h
          exact XS.fin [] ((True) ∧ ((True) ∧ (True))) (by kernel_rfl) ⟨trivial, ⟨trivial, trivial⟩⟩
        · refine TS.cond (!y_7) ?_ (fun e => by rw [c11] at e; cases e) (fun e => ?_)
          · kernel_rfl
          refine TS.skip ?_
          refine XS.then ?_
          refine TS.seq ?_
          have hq : (True) ∧ (True) := ⟨trivial, trivial⟩
          refine TS.reg [] ?_ ?_
          · apply prop_of ?_ hq
            kernel_rfl
          refine XS.then ?_
          refine TS.seq ?_
          refine TS.seq ?_
          have hq : ((True) ∧ ((True) ∧ ((True) ∧ ((True) ∧ ((True) ∧ ((True) ∧ ((inR c_End 32) ∧ ((c_End.toNat < 32 ∧ (True)) ∧ ((True) ∧ (True)))))))))) ∧ (True) := ⟨⟨trivial, ⟨trivial, ⟨trivial, ⟨trivial, ⟨trivial, ⟨trivial, ⟨inb_ok t4, ⟨⟨inR_lt (inb_ok t4), trivial⟩, ⟨trivial, trivial⟩⟩⟩⟩⟩⟩⟩⟩⟩, trivial⟩
          refine TS.draw 9 [] [] (by kernel_rfl) ?_ ?_
          · apply prop_of ?_ hq
            kernel_rfl
          refine XS.then ?_
          refine TS.cut (D := Int) (fun d => match d with | to => (mkTs 61 [(2, (.ptr 0 [])), (3, (.ptr 1 [])), (4, (.ptr 2 [])), (6, (.int .i64 to))], [(.box 33 (.st (.cons (.int .i64 s_State) (.cons (.int .i64 s_Addr) (.cons (.arr 32 (.int .i64) s_Ends) (.arr 32 (.int .i64) s_Marks)))))), (.box 23 (.st (.cons (.int .i64 c_Kind) (.cons (.int .i64 c_Slot) (.cons (.int .i64 c_End) (.int .i64 c_Arg)))))), (.box 33 (.st (.cons (.int .i64 (0 : Int)) (.cons (.int .i64 (0 : Int)) (.cons (.arr 32 (.int .i64) (List.replicate 32 (0 : Int))) (.arr 32 (.int .i64) (List.replicate 32 (0 : Int))))))))])) (fun d => F88_j13 n s_State s_Addr s_Ends s_Marks c_End c_Arg d = some r) ?_ ?_
          · rintro to h
            replace h : (some (s_State, s_Addr, (s_Ends.set c_End.toNat to), (s_Marks.set c_End.toNat c_Arg), (1 : Int))) = some r := h
            refine XS.then ?_
            refine TS.seq ?_
            have hq : (True) ∧ ((True) ∧ ((True) ∧ ((True) ∧ ((inR c_End 32) ∧ ((c_End.toNat < 32 ∧ (True)) ∧ (True)))))) := ⟨trivial, ⟨trivial, ⟨trivial, ⟨trivial, ⟨inb_ok t4, ⟨⟨inR_lt (inb_ok t4), trivial⟩, trivial⟩⟩⟩⟩⟩⟩
            refine TS.reg [] ?_ ?_
            · apply prop_of ?_ hq
              kernel_rfl
            refine XS.then ?_
            refine TS.seq ?_
            refine TS.seq ?_
            have hq : (True) ∧ ((True) ∧ ((True) ∧ (True))) := ⟨trivial, ⟨trivial, ⟨trivial, trivial⟩⟩⟩
            refine TS.reg [] ?_ ?_
            · apply prop_of ?_ hq
              kernel_rfl
            refine XS.then ?_
            refine TS.cond (c_Kind == (8 : Int)) ?_ (fun e => ?_) (fun e => by rw [c7] at e; cases e)
            · kernel_rfl
            have hq : (True) ∧ ((True) ∧ ((True) ∧ ((True) ∧ ((True) ∧ ((inR c_End 32) ∧ ((c_End.toNat < 32 ∧ (True)) ∧ (True))))))) := ⟨trivial, ⟨trivial, ⟨trivial, ⟨trivial, ⟨trivial, ⟨inb_ok t4, ⟨⟨inR_lt (inb_ok t4), trivial⟩, trivial⟩⟩⟩⟩⟩⟩⟩
            refine TS.reg [] ?_ ?_
            · apply prop_of ?_ hq
              kernel_rfl
            refine XS.then ?_
            refine TS.seq ?_
            have hq : (True) ∧ ((True) ∧ ((True) ∧ (True))) := ⟨trivial, ⟨trivial, ⟨trivial, trivial⟩⟩⟩
            refine TS.reg [] ?_ ?_
            · apply prop_of ?_ hq
              kernel_rfl
            refine XS.then ?_
            refine TS.ret ?_
            obtain rfl : (s_State, s_Addr, (s_Ends.set c_End.toNat to), (s_Marks.set c_End.toNat c_Arg), (1 : Int)) = r := Option.some.inj h
            exact XS.fin [] ((True) ∧ ((True) ∧ (True))) (by kernel_rfl) ⟨trivial, ⟨trivial, trivial⟩⟩
          · refine TS.block ?_
            refine TS.seq ?_
            refine TS.seq ?_
            have hq : (True) ∧ ((True) ∧ (True)) := ⟨trivial, ⟨trivial, trivial⟩⟩
            refine TS.reg [] ?_ ?_
            · apply prop_of ?_ hq
              kernel_rfl
            refine XS.then ?_
            refine TS.cut (D := Bool) (fun d => match d with | x => (mkTs 61 [(2, (.ptr 0 [])), (3, (.ptr 1 [])), (4, (.ptr 2 [])), (37, (.int .i64 (IntKind.wrap .i64 ((IntKind.wrap .i64 ((10 : Int) * c_Kind)) + (s_Ends.getD c_End.toNat (0 : Int)))))), (39, (.bool x))], [(.box 33 (.st (.cons (.int .i64 s_State) (.cons (.int .i64 s_Addr) (.cons (.arr 32 (.int .i64) s_Ends) (.arr 32 (.int .i64) s_Marks)))))), (.box 23 (.st (.cons (.int .i64 c_Kind) (.cons (.int .i64 c_Slot) (.cons (.int .i64 c_End) (.int .i64 c_Arg)))))), (.box 33 (.st (.cons (.int .i64 (0 : Int)) (.cons (.int .i64 (0 : Int)) (.cons (.arr 32 (.int .i64) (List.replicate 32 (0 : Int))) (.arr 32 (.int .i64) (List.replicate 32 (0 : Int))))))))])) (fun d => F88_j14 n s_State s_Addr s_Ends s_Marks c_Kind c_End c_Arg d = some r) ?_ ?_
            · rintro x h
              replace h : (bif x then (F88_j13 n s_State s_Addr s_Ends s_Marks c_End c_Arg (3 : Int)) else (bif ((IntKind.wrap .i64 ((IntKind.wrap .i64 ((10 : Int) * c_Kind)) + (s_Ends.getD c_End.toNat (0 : Int)))) == (91 : Int)) then (F88_j15 n s_State s_Addr s_Ends s_Marks c_End c_Arg ((IntKind.wrap .i64 ((IntKind.wrap .i64 ((10 : Int) * c_Kind)) + (s_Ends.getD c_End.toNat (0 : Int)))) == (91 : Int))) else (F88_j15 n s_State s_Addr s_Ends s_Marks c_End c_Arg ((IntKind.wrap .i64 ((IntKind.wrap .i64 ((10 : Int) * c_Kind)) + (s_Ends.getD c_End.toNat (0 : Int)))) == (93 : Int))))) = some r := h
              refine XS.then ?_
              rcases bif_some h with ⟨c12, h⟩ | ⟨c13, h⟩
              · refine TS.cond x ?_ (fun e => ?_) (fun e => by rw [c12] at e; cases e)
                · kernel_rfl
                have hq : (True) ∧ (True) := ⟨trivial, trivial⟩
                refine TS.reg [] ?_ ?_
                · apply prop_of ?_ hq
                  kernel_rfl
                refine XS.blockEnd ?_
                refine XS.reAny [0, 1, 2] (mkMask 61 [2, 3, 4, 6]) (3 : Int) h ?_
                kernel_rfl
              · refine TS.cond x ?_ (fun e => by rw [c13] at e; cases e) (fun e => ?_)
                · kernel_rfl
                refine TS.seq ?_
                refine TS.seq ?_
                have hq : (True) ∧ ((True) ∧ (True)) := ⟨trivial, ⟨trivial, trivial⟩⟩
                refine TS.reg [] ?_ ?_
                · apply prop_of ?_ hq
                  kernel_rfl
                refine XS.then ?_
                refine TS.cut (D := Bool) (fun d => match d with | x_2 => (mkTs 61 [(2, (.ptr 0 [])), (3, (.ptr 1 [])), (4, (.ptr 2 [])), (43, (.bool x_2))], [(.box 33 (.st (.cons (.int .i64 s_State) (.cons (.int .i64 s_Addr) (.cons (.arr 32 (.int .i64) s_Ends) (.arr 32 (.int .i64) s_Marks)))))), (.box 23 (.st (.cons (.int .i64 c_Kind) (.cons (.int .i64 c_Slot) (.cons (.int .i64 c_End) (.int .i64 c_Arg)))))), (.box 33 (.st (.cons (.int .i64 (0 : Int)) (.cons (.int .i64 (0 : Int)) (.cons (.arr 32 (.int .i64) (List.replicate 32 (0 : Int))) (.arr 32 (.int .i64) (List.replicate 32 (0 : Int))))))))])) (fun d => F88_j15 n s_State s_Addr s_Ends s_Marks c_End c_Arg d = some r) ?_ ?_
                · rintro x_2 h
                  replace h : (bif x_2 then (F88_j13 n s_State s_Addr s_Ends s_Marks c_End c_Arg (1 : Int)) else (some (s_State, s_Addr, s_Ends, s_Marks, (19 : Int)))) = some r := h
                  refine XS.then ?_
                  rcases bif_some h with ⟨c14, h⟩ | ⟨c15, h⟩
                  · refine TS.cond x_2 ?_ (fun e => ?_) (fun e => by rw [c14] at e; cases e)
                    · kernel_rfl
                    have hq : (True) ∧ (True) := ⟨trivial, trivial⟩
                    refine TS.reg [] ?_ ?_
                    · apply prop_of ?_ hq
                      kernel_rfl
                    refine XS.blockEnd ?_
                    refine XS.reAny [0, 1, 2] (mkMask 61 [2, 3, 4, 6]) (1 : Int) h ?_
                    kernel_rfl
                  · refine TS.cond x_2 ?_ (fun e => by rw [c15] at e; cases e) (fun e => ?_)
                    · kernel_rfl
                    refine TS.seq ?_
                    have hq : (True) ∧ ((True) ∧ ((True) ∧ (True))) := ⟨trivial, ⟨trivial, ⟨trivial, trivial⟩⟩⟩
                    refine TS.reg [] ?_ ?_
                    · apply prop_of ?_ hq
                      kernel_rfl
                    refine XS.then ?_
                    refine TS.ret ?_
                    refine XS.blockRet ?_
                    refine XS.passR ?_
                    refine XS.passR ?_
                    obtain rfl : (s_State, s_Addr, s_Ends, s_Marks, (19 : Int)) = r := Option.some.inj h
                    exact XS.fin [] ((True) ∧ ((True) ∧ (True))) (by kernel_rfl) ⟨trivial, ⟨trivial, trivial⟩⟩
                · rcases bif_some h with ⟨c16, h⟩ | ⟨c17, h⟩
                  · refine TS.cond ((IntKind.wrap .i64 ((IntKind.wrap .i64 ((10 : Int) * c_Kind)) + (s_Ends.getD c_End.toNat (0 : Int)))) == (91 : Int)) ?_ (fun e => ?_) (fun e => by rw [c16] at e; cases e)
                    · kernel_rfl
                    refine TS.skip ?_
                    refine XS.reAny [0, 1, 2] (mkMask 61 [2, 3, 4, 43]) ((IntKind.wrap .i64 ((IntKind.wrap .i64 ((10 : Int) * c_Kind)) + (s_Ends.getD c_End.toNat (0 : Int)))) == (91 : Int)) h ?_
                    kernel_rfl
                  · refine TS.cond ((IntKind.wrap .i64 ((IntKind.wrap .i64 ((10 : Int) * c_Kind)) + (s_Ends.getD c_End.toNat (0 : Int)))) == (91 : Int)) ?_ (fun e => by rw [c17] at e; cases e) (fun e => ?_)
                    · kernel_rfl
                    have hq : (True) ∧ ((True) ∧ (True)) := ⟨trivial, ⟨trivial, trivial⟩⟩
                    refine TS.reg [] ?_ ?_
                    · apply prop_of ?_ hq
                      kernel_rfl
                    refine XS.reAny [0, 1, 2] (mkMask 61 [2, 3, 4, 43]) ((IntKind.wrap .i64 ((IntKind.wrap .i64 ((10 : Int) * c_Kind)) + (s_Ends.getD c_End.toNat (0 : Int)))) == (93 : Int)) h ?_
                    kernel_rfl
            · rcases bif_some h with ⟨c18, h⟩ | ⟨c19, h⟩
              · refine TS.cond ((IntKind.wrap .i64 ((IntKind.wrap .i64 ((10 : Int) * c_Kind)) + (s_Ends.getD c_End.toNat (0 : Int)))) == (62 : Int)) ?_ (fun e => ?_) (fun e => by rw [c18] at e; cases e)
                · kernel_rfl
                refine TS.skip ?_
                refine XS.reAny [0, 1, 2] (mkMask 61 [2, 3, 4, 37, 39]) ((IntKind.wrap .i64 ((IntKind.wrap .i64 ((10 : Int) * c_Kind)) + (s_Ends.getD c_End.toNat (0 : Int)))) == (62 : Int)) h ?_
                kernel_rfl
              · refine TS.cond ((IntKind.wrap .i64 ((IntKind.wrap .i64 ((10 : Int) * c_Kind)) + (s_Ends.getD c_End.toNat (0 : Int)))) == (62 : Int)) ?_ (fun e => by rw [c19] at e; cases e) (fun e => ?_)
                · kernel_rfl
                refine TS.seq ?_
                have hq : (True) ∧ ((True) ∧ (True)) := ⟨trivial, ⟨trivial, trivial⟩⟩
                refine TS.reg [] ?_ ?_
                · apply prop_of ?_ hq
                  kernel_rfl
                refine XS.then ?_
                rcases bif_some h with ⟨c20, h⟩ | ⟨c21, h⟩
                · refine TS.cond ((IntKind.wrap .i64 ((IntKind.wrap .i64 ((10 : Int) * c_Kind)) + (s_Ends.getD c_End.toNat (0 : Int)))) == (71 : Int)) ?_ (fun e => ?_) (fun e => by rw [c20] at e; cases e)
                  · kernel_rfl
                  refine TS.skip ?_
                  refine XS.reAny [0, 1, 2] (mkMask 61 [2, 3, 4, 37, 39]) ((IntKind.wrap .i64 ((IntKind.wrap .i64 ((10 : Int) * c_Kind)) + (s_Ends.getD c_End.toNat (0 : Int)))) == (71 : Int)) h ?_
                  kernel_rfl
                · refine TS.cond ((IntKind.wrap .i64 ((IntKind.wrap .i64 ((10 : Int) * c_Kind)) + (s_Ends.getD c_End.toNat (0 : Int)))) == (71 : Int)) ?_ (fun e => by rw [c21] at e; cases e) (fun e => ?_)
                  · kernel_rfl
                  have hq : (True) ∧ ((True) ∧ (True)) := ⟨trivial, ⟨trivial, trivial⟩⟩
                  refine TS.reg [] ?_ ?_
                  · apply prop_of ?_ hq
                    kernel_rfl
                  refine XS.reAny [0, 1, 2] (mkMask 61 [2, 3, 4, 37, 39]) ((IntKind.wrap .i64 ((IntKind.wrap .i64 ((10 : Int) * c_Kind)) + (s_Ends.getD c_End.toNat (0 : Int)))) == (83 : Int)) h ?_
                  kernel_rfl
      · have hq : (True) ∧ ((True) ∧ ((True) ∧ (((True) ∧ (c_Kind == (8 : Int)) = false) ∧ ((True) ∧ (True))))) := ⟨trivial, ⟨trivial, ⟨trivial, ⟨⟨trivial, c8⟩, ⟨trivial, trivial⟩⟩⟩⟩⟩
        refine TS.reg [.none, .none, .none, .dec false] ?_ ?_
        · apply prop_of ?_ hq
          kernel_rfl
        refine XS.then ?_
        refine TS.no ?_ ?_
        · kernel_rfl
        refine TS.skip ?_
        refine XS.then ?_
        refine TS.seq ?_
        have hq : (True) ∧ (True) := ⟨trivial, trivial⟩
        refine TS.reg [] ?_ ?_
        · apply prop_of ?_ hq
          kernel_rfl
        refine XS.then ?_
        refine TS.seq ?_
        refine TS.seq ?_
        have hq : ((True) ∧ ((True) ∧ ((True) ∧ ((True) ∧ ((True) ∧ ((True) ∧ ((inR c_End 32) ∧ ((c_End.toNat < 32 ∧ (True)) ∧ ((True) ∧ (True)))))))))) ∧ (True) := ⟨⟨trivial, ⟨trivial, ⟨trivial, ⟨trivial, ⟨trivial, ⟨trivial, ⟨inb_ok t4, ⟨⟨inR_lt (inb_ok t4), trivial⟩, ⟨trivial, trivial⟩⟩⟩⟩⟩⟩⟩⟩⟩, trivial⟩
        refine TS.draw 9 [] [] (by kernel_rfl) ?_ ?_
        · apply prop_of ?_ hq
          kernel_rfl
        refine XS.then ?_
        refine TS.cut (D := Int) (fun d => match d with | to_2 => (mkTs 61 [(2, (.ptr 0 [])), (3, (.ptr 1 [])), (4, (.ptr 2 [])), (6, (.int .i64 to_2))], [(.box 33 (.st (.cons (.int .i64 s_State) (.cons (.int .i64 s_Addr) (.cons (.arr 32 (.int .i64) s_Ends) (.arr 32 (.int .i64) s_Marks)))))), (.box 23 (.st (.cons (.int .i64 c_Kind) (.cons (.int .i64 c_Slot) (.cons (.int .i64 c_End) (.int .i64 c_Arg)))))), (.box 33 (.st (.cons (.int .i64 (0 : Int)) (.cons (.int .i64 (0 : Int)) (.cons (.arr 32 (.int .i64) (List.replicate 32 (0 : Int))) (.arr 32 (.int .i64) (List.replicate 32 (0 : Int))))))))])) (fun d => F88_j18 n s_State s_Addr s_Ends s_Marks c_End d = some r) ?_ ?_
        · rintro to_2 h
          replace h : (some (s_State, s_Addr, (s_Ends.set c_End.toNat to_2), s_Marks, (1 : Int))) = some r := h
          refine XS.then ?_
          refine TS.seq ?_
          have hq : (True) ∧ ((True) ∧ ((True) ∧ ((True) ∧ ((inR c_End 32) ∧ ((c_End.toNat < 32 ∧ (True)) ∧ (True)))))) := ⟨trivial, ⟨trivial, ⟨trivial, ⟨trivial, ⟨inb_ok t4, ⟨⟨inR_lt (inb_ok t4), trivial⟩, trivial⟩⟩⟩⟩⟩⟩
          refine TS.reg [] ?_ ?_
          · apply prop_of ?_ hq
            kernel_rfl
          refine XS.then ?_
          refine TS.seq ?_
          refine TS.seq ?_
          have hq : (True) ∧ ((True) ∧ ((True) ∧ (True))) := ⟨trivial, ⟨trivial, ⟨trivial, trivial⟩⟩⟩
          refine TS.reg [] ?_ ?_
          · apply prop_of ?_ hq
            kernel_rfl
          refine XS.then ?_
          refine TS.cond (c_Kind == (8 : Int)) ?_ (fun e => by rw [c8] at e; cases e) (fun e => ?_)
          · kernel_rfl
          refine TS.skip ?_
          refine XS.then ?_
          refine TS.seq ?_
          have hq : (True) ∧ ((True) ∧ ((True) ∧ (True))) := ⟨trivial, ⟨trivial, ⟨trivial, trivial⟩⟩⟩
          refine TS.reg [] ?_ ?_
          · apply prop_of ?_ hq
            kernel_rfl
          refine XS.then ?_
          refine TS.ret ?_
          obtain rfl : (s_State, s_Addr, (s_Ends.set c_End.toNat to_2), s_Marks, (1 : Int)) = r := Option.some.inj h
          exact XS.fin [] ((True) ∧ ((True) ∧ (True))) (by kernel_rfl) ⟨trivial, ⟨trivial, trivial⟩⟩
        · refine TS.block ?_
          refine TS.seq ?_
          refine TS.seq ?_
          have hq : (True) ∧ ((True) ∧ (True)) := ⟨trivial, ⟨trivial, trivial⟩⟩
          refine TS.reg [] ?_ ?_
          · apply prop_of ?_ hq
            kernel_rfl
          refine XS.then ?_
          refine TS.cut (D := Bool) (fun d => match d with | x_3 => (mkTs 61 [(2, (.ptr 0 [])), (3, (.ptr 1 [])), (4, (.ptr 2 [])), (37, (.int .i64 (IntKind.wrap .i64 ((IntKind.wrap .i64 ((10 : Int) * c_Kind)) + (s_Ends.getD c_End.toNat (0 : Int)))))), (39, (.bool x_3))], [(.box 33 (.st (.cons (.int .i64 s_State) (.cons (.int .i64 s_Addr) (.cons (.arr 32 (.int .i64) s_Ends) (.arr 32 (.int .i64) s_Marks)))))), (.box 23 (.st (.cons (.int .i64 c_Kind) (.cons (.int .i64 c_Slot) (.cons (.int .i64 c_End) (.int .i64 c_Arg)))))), (.box 33 (.st (.cons (.int .i64 (0 : Int)) (.cons (.int .i64 (0 : Int)) (.cons (.arr 32 (.int .i64) (List.replicate 32 (0 : Int))) (.arr 32 (.int .i64) (List.replicate 32 (0 : Int))))))))])) (fun d => F88_j19 n s_State s_Addr s_Ends s_Marks c_Kind c_End d = some r) ?_ ?_
          · rintro x_3 h
            replace h : (bif x_3 then (F88_j18 n s_State s_Addr s_Ends s_Marks c_End (3 : Int)) else (bif ((IntKind.wrap .i64 ((IntKind.wrap .i64 ((10 : Int) * c_Kind)) + (s_Ends.getD c_End.toNat (0 : Int)))) == (91 : Int)) then (F88_j20 n s_State s_Addr s_Ends s_Marks c_End ((IntKind.wrap .i64 ((IntKind.wrap .i64 ((10 : Int) * c_Kind)) + (s_Ends.getD c_End.toNat (0 : Int)))) == (91 : Int))) else (F88_j20 n s_State s_Addr s_Ends s_Marks c_End ((IntKind.wrap .i64 ((IntKind.wrap .i64 ((10 : Int) * c_Kind)) + (s_Ends.getD c_End.toNat (0 : Int)))) == (93 : Int))))) = some r := h
            refine XS.then ?_
            rcases bif_some h with ⟨c22, h⟩ | ⟨c23, h⟩
            · refine TS.cond x_3 ?_ (fun e => ?_) (fun e => by rw [c22] at e; cases e)
              · kernel_rfl
              have hq : (True) ∧ (True) := ⟨trivial, trivial⟩
              refine TS.reg [] ?_ ?_
              · apply prop_of ?_ hq
                kernel_rfl
              refine XS.blockEnd ?_
              refine XS.reAny [0, 1, 2] (mkMask 61 [2, 3, 4, 6]) (3 : Int) h ?_
              kernel_rfl
            · refine TS.cond x_3 ?_ (fun e => by rw [c23] at e; cases e) (fun e => ?_)
              · kernel_rfl
              refine TS.seq ?_
              refine TS.seq ?_
              have hq : (True) ∧ ((True) ∧ (True)) := ⟨trivial, ⟨trivial, trivial⟩⟩
              refine TS.reg [] ?_ ?_
              · apply prop_of ?_ hq
                kernel_rfl
              refine XS.then ?_
              refine TS.cut (D := Bool) (fun d => match d with | x_4 => (mkTs 61 [(2, (.ptr 0 [])), (3, (.ptr 1 [])), (4, (.ptr 2 [])), (43, (.bool x_4))], [(.box 33 (.st (.cons (.int .i64 s_State) (.cons (.int .i64 s_Addr) (.cons (.arr 32 (.int .i64) s_Ends) (.arr 32 (.int .i64) s_Marks)))))), (.box 23 (.st (.cons (.int .i64 c_Kind) (.cons (.int .i64 c_Slot) (.cons (.int .i64 c_End) (.int .i64 c_Arg)))))), (.box 33 (.st (.cons (.int .i64 (0 : Int)) (.cons (.int .i64 (0 : Int)) (.cons (.arr 32 (.int .i64) (List.replicate 32 (0 : Int))) (.arr 32 (.int .i64) (List.replicate 32 (0 : Int))))))))])) (fun d => F88_j20 n s_State s_Addr s_Ends s_Marks c_End d = some r) ?_ ?_
              · rintro x_4 h
                replace h : (bif x_4 then (F88_j18 n s_State s_Addr s_Ends s_Marks c_End (1 : Int)) else (some (s_State, s_Addr, s_Ends, s_Marks, (19 : Int)))) = some r := h
                refine XS.then ?_
                rcases bif_some h with ⟨c24, h⟩ | ⟨c25, h⟩
                · refine TS.cond x_4 ?_ (fun e => ?_) (fun e => by rw [c24] at e; cases e)
                  · kernel_rfl
                  have hq : (True) ∧ (True) := ⟨trivial, trivial⟩
                  refine TS.reg [] ?_ ?_
                  · apply prop_of ?_ hq
                    kernel_rfl
                  refine XS.blockEnd ?_
                  refine XS.reAny [0, 1, 2] (mkMask 61 [2, 3, 4, 6]) (1 : Int) h ?_
                  kernel_rfl
                · refine TS.cond x_4 ?_ (fun e => by rw [c25] at e; cases e) (fun e => ?_)
                  · kernel_rfl
                  refine TS.seq ?_
                  have hq : (True) ∧ ((True) ∧ ((True) ∧ (True))) := ⟨trivial, ⟨trivial, ⟨trivial, trivial⟩⟩⟩
                  refine TS.reg [] ?_ ?_
                  · apply prop_of ?_ hq
                    kernel_rfl
                  refine XS.then ?_
                  refine TS.ret ?_
                  refine XS.blockRet ?_
                  refine XS.passR ?_
                  refine XS.passR ?_
                  obtain rfl : (s_State, s_Addr, s_Ends, s_Marks, (19 : Int)) = r := Option.some.inj h
                  exact XS.fin [] ((True) ∧ ((True) ∧ (True))) (by kernel_rfl) ⟨trivial, ⟨trivial, trivial⟩⟩
              · rcases bif_some h with ⟨c26, h⟩ | ⟨c27, h⟩
                · refine TS.cond ((IntKind.wrap .i64 ((IntKind.wrap .i64 ((10 : Int) * c_Kind)) + (s_Ends.getD c_End.toNat (0 : Int)))) == (91 : Int)) ?_ (fun e => ?_) (fun e => by rw [c26] at e; cases e)
                  · kernel_rfl
                  refine TS.skip ?_
                  refine XS.reAny [0, 1, 2] (mkMask 61 [2, 3, 4, 43]) ((IntKind.wrap .i64 ((IntKind.wrap .i64 ((10 : Int) * c_Kind)) + (s_Ends.getD c_End.toNat (0 : Int)))) == (91 : Int)) h ?_
                  kernel_rfl
                · refine TS.cond ((IntKind.wrap .i64 ((IntKind.wrap .i64 ((10 : Int) * c_Kind)) + (s_Ends.getD c_End.toNat (0 : Int)))) == (91 : Int)) ?_ (fun e => by rw [c27] at e; cases e) (fun e => ?_)
                  · kernel_rfl
                  have hq : (True) ∧ ((True) ∧ (True)) := ⟨trivial, ⟨trivial, trivial⟩⟩
                  refine TS.reg [] ?_ ?_
                  · apply prop_of ?_ hq
                    kernel_rfl
                  refine XS.reAny [0, 1, 2] (mkMask 61 [2, 3, 4, 43]) ((IntKind.wrap .i64 ((IntKind.wrap .i64 ((10 : Int) * c_Kind)) + (s_Ends.getD c_End.toNat (0 : Int)))) == (93 : Int)) h ?_
                  kernel_rfl
          · rcases bif_some h with ⟨c28, h⟩ | ⟨c29, h⟩
            · refine TS.cond ((IntKind.wrap .i64 ((IntKind.wrap .i64 ((10 : Int) * c_Kind)) + (s_Ends.getD c_End.toNat (0 : Int)))) == (62 : Int)) ?_ (fun e => ?_) (fun e => by rw [c28] at e; cases e)
              · kernel_rfl
              refine TS.skip ?_
              refine XS.reAny [0, 1, 2] (mkMask 61 [2, 3, 4, 37, 39]) ((IntKind.wrap .i64 ((IntKind.wrap .i64 ((10 : Int) * c_Kind)) + (s_Ends.getD c_End.toNat (0 : Int)))) == (62 : Int)) h ?_
              kernel_rfl
            · refine TS.cond ((IntKind.wrap .i64 ((IntKind.wrap .i64 ((10 : Int) * c_Kind)) + (s_Ends.getD c_End.toNat (0 : Int)))) == (62 : Int)) ?_ (fun e => by rw [c29] at e; cases e) (fun e => ?_)
              · kernel_rfl
              refine TS.seq ?_
              have hq : (True) ∧ ((True) ∧ (True)) := ⟨trivial, ⟨trivial, trivial⟩⟩
              refine TS.reg [] ?_ ?_
              · apply prop_of ?_ hq
                kernel_rfl
              refine XS.then ?_
              rcases bif_some h with ⟨c30, h⟩ | ⟨c31, h⟩
              · refine TS.cond ((IntKind.wrap .i64 ((IntKind.wrap .i64 ((10 : Int) * c_Kind)) + (s_Ends.getD c_End.toNat (0 : Int)))) == (71 : Int)) ?_ (fun e => ?_) (fun e => by rw [c30] at e; cases e)
                · kernel_rfl
                refine TS.skip ?_
                refine XS.reAny [0, 1, 2] (mkMask 61 [2, 3, 4, 37, 39]) ((IntKind.wrap .i64 ((IntKind.wrap .i64 ((10 : Int) * c_Kind)) + (s_Ends.getD c_End.toNat (0 : Int)))) == (71 : Int)) h ?_
                kernel_rfl
              · refine TS.cond ((IntKind.wrap .i64 ((IntKind.wrap .i64 ((10 : Int) * c_Kind)) + (s_Ends.getD c_End.toNat (0 : Int)))) == (71 : Int)) ?_ (fun e => by rw [c31] at e; cases e) (fun e => ?_)
                · kernel_rfl
                have hq : (True) ∧ ((True) ∧ (True)) := ⟨trivial, ⟨trivial, trivial⟩⟩
                refine TS.reg [] ?_ ?_
                · apply prop_of ?_ hq
                  kernel_rfl
                refine XS.reAny [0, 1, 2] (mkMask 61 [2, 3, 4, 37, 39]) ((IntKind.wrap .i64 ((IntKind.wrap .i64 ((10 : Int) * c_Kind)) + (s_Ends.getD c_End.toNat (0 : Int)))) == (83 : Int)) h ?_
                kernel_rfl

/-! plugtree/plugref.Command -/
def F65_l2 (n : Nat) (b_Slots : List (Int × Int × (List Int) × List Int)) (c_Kind : Int) (c_Slot : Int) (c_End : Int) (c_Arg : Int) (k65_2 : (Int × (List Int) × (List Int)) → Option (Int × Int × (List Int) × (List Int) × Int × Int)) : (Int × (List Int) × (List Int)) → Option (Int × Int × (List Int) × (List Int) × Int × Int)
  | (x, m4, m5) => (bif (decide (x < (9 : Int))) then (bif inb x 9 then (bif ((b_Slots.getD x.toNat ((0 : Int), ((0 : Int), ((List.replicate 32 (0 : Int)), (List.replicate 32 (0 : Int)))))).1 != (0 : Int)) then (bif (decide (m4.length + [x].length ≤ 17179869184)) then (bif (decide (m5.length + [(b_Slots.getD x.toNat ((0 : Int), ((0 : Int), ((List.replicate 32 (0 : Int)), (List.replicate 32 (0 : Int)))))).2.1].length ≤ 17179869184)) then (k65_2 ((IntKind.wrap .i64 (x + (1 : Int))), (m4 ++ [x]), (m5 ++ [(b_Slots.getD x.toNat ((0 : Int), ((0 : Int), ((List.replicate 32 (0 : Int)), (List.replicate 32 (0 : Int)))))).2.1]))) else none) else none) else (k65_2 ((IntKind.wrap .i64 (x + (1 : Int))), m4, m5))) else none) else ((F18 n b_Slots).bind fun y_7 => (bif (y_7 != (0 : Int)) then (some ((0 : Int), (0 : Int), (List.replicate 32 (0 : Int)), (List.replicate 32 (0 : Int)), (0 : Int), (0 : Int))) else (bif (c_Kind == (1 : Int)) then (some ((0 : Int), (0 : Int), (List.replicate 32 (0 : Int)), (List.replicate 32 (0 : Int)), (1 : Int), (0 : Int))) else (bif (c_Kind == (2 : Int)) then ((F86 n m4).bind fun y_8 => (bif (decide (y_8 ≤ (8 : Int))) then (some ((1 : Int), (0 : Int), (List.replicate 32 (0 : Int)), (List.replicate 32 (0 : Int)), (1 : Int), y_8)) else (some ((0 : Int), (0 : Int), (List.replicate 32 (0 : Int)), (List.replicate 32 (0 : Int)), (9 : Int), (0 : Int))))) else ((F19 n c_Kind (3 : Int) (9 : Int)).bind fun y_9 => (bif (!y_9) then (some ((0 : Int), (0 : Int), (List.replicate 32 (0 : Int)), (List.replicate 32 (0 : Int)), (5 : Int), (0 : Int))) else ((F19 n c_Slot (1 : Int) (8 : Int)).bind fun y_10 => (bif (!y_10) then (some ((0 : Int), (0 : Int), (List.replicate 32 (0 : Int)), (List.replicate 32 (0 : Int)), (5 : Int), (0 : Int))) else (bif inb c_Slot 9 then (bif ((b_Slots.getD c_Slot.toNat ((0 : Int), ((0 : Int), ((List.replicate 32 (0 : Int)), (List.replicate 32 (0 : Int)))))).1 == (0 : Int)) then (some ((b_Slots.getD c_Slot.toNat ((0 : Int), ((0 : Int), ((List.replicate 32 (0 : Int)), (List.replicate 32 (0 : Int)))))).1, (b_Slots.getD c_Slot.toNat ((0 : Int), ((0 : Int), ((List.replicate 32 (0 : Int)), (List.replicate 32 (0 : Int)))))).2.1, (b_Slots.getD c_Slot.toNat ((0 : Int), ((0 : Int), ((List.replicate 32 (0 : Int)), (List.replicate 32 (0 : Int)))))).2.2.1, (b_Slots.getD c_Slot.toNat ((0 : Int), ((0 : Int), ((List.replicate 32 (0 : Int)), (List.replicate 32 (0 : Int)))))).2.2.2, (11 : Int), c_Slot)) else (bif (c_Kind == (3 : Int)) then (some ((0 : Int), (0 : Int), (List.replicate 32 (0 : Int)), (List.replicate 32 (0 : Int)), (1 : Int), c_Slot)) else (bif (c_Kind == (4 : Int)) then (bif ((b_Slots.getD c_Slot.toNat ((0 : Int), ((0 : Int), ((List.replicate 32 (0 : Int)), (List.replicate 32 (0 : Int)))))).1 != (1 : Int)) then (some ((b_Slots.getD c_Slot.toNat ((0 : Int), ((0 : Int), ((List.replicate 32 (0 : Int)), (List.replicate 32 (0 : Int)))))).1, (b_Slots.getD c_Slot.toNat ((0 : Int), ((0 : Int), ((List.replicate 32 (0 : Int)), (List.replicate 32 (0 : Int)))))).2.1, (b_Slots.getD c_Slot.toNat ((0 : Int), ((0 : Int), ((List.replicate 32 (0 : Int)), (List.replicate 32 (0 : Int)))))).2.2.1, (b_Slots.getD c_Slot.toNat ((0 : Int), ((0 : Int), ((List.replicate 32 (0 : Int)), (List.replicate 32 (0 : Int)))))).2.2.2, (19 : Int), c_Slot)) else ((F86 n m5).bind fun y_11 => (some ((2 : Int), y_11, (((b_Slots.getD c_Slot.toNat ((0 : Int), ((0 : Int), ((List.replicate 32 (0 : Int)), (List.replicate 32 (0 : Int)))))).2.2.1).set 1 (1 : Int)), (b_Slots.getD c_Slot.toNat ((0 : Int), ((0 : Int), ((List.replicate 32 (0 : Int)), (List.replicate 32 (0 : Int)))))).2.2.2, (1 : Int), c_Slot)))) else (bif (c_Kind == (5 : Int)) then ((F87 n ((b_Slots.getD c_Slot.toNat ((0 : Int), ((0 : Int), ((List.replicate 32 (0 : Int)), (List.replicate 32 (0 : Int)))))).1) ((b_Slots.getD c_Slot.toNat ((0 : Int), ((0 : Int), ((List.replicate 32 (0 : Int)), (List.replicate 32 (0 : Int)))))).2.1) ((b_Slots.getD c_Slot.toNat ((0 : Int), ((0 : Int), ((List.replicate 32 (0 : Int)), (List.replicate 32 (0 : Int)))))).2.2.1) ((b_Slots.getD c_Slot.toNat ((0 : Int), ((0 : Int), ((List.replicate 32 (0 : Int)), (List.replicate 32 (0 : Int)))))).2.2.2) c_Arg).bind fun y_12 => (some (y_12.1, y_12.2.1, y_12.2.2.1, y_12.2.2.2.1, y_12.2.2.2.2, c_Slot))) else ((F88 n ((b_Slots.getD c_Slot.toNat ((0 : Int), ((0 : Int), ((List.replicate 32 (0 : Int)), (List.replicate 32 (0 : Int)))))).1) ((b_Slots.getD c_Slot.toNat ((0 : Int), ((0 : Int), ((List.replicate 32 (0 : Int)), (List.replicate 32 (0 : Int)))))).2.1) ((b_Slots.getD c_Slot.toNat ((0 : Int), ((0 : Int), ((List.replicate 32 (0 : Int)), (List.replicate 32 (0 : Int)))))).2.2.1) ((b_Slots.getD c_Slot.toNat ((0 : Int), ((0 : Int), ((List.replicate 32 (0 : Int)), (List.replicate 32 (0 : Int)))))).2.2.2) c_Kind c_Slot c_End c_Arg).bind fun y_13 => (some (y_13.1, y_13.2.1, y_13.2.2.1, y_13.2.2.2.1, y_13.2.2.2.2, c_Slot))))))) else none))))))))))
def F65 (n : Nat) (b_Slots : List (Int × Int × (List Int) × List Int)) (c_Kind : Int) (c_Slot : Int) (c_End : Int) (c_Arg : Int) : Option (Int × Int × (List Int) × (List Int) × Int × Int) := (loopF (F65_l2 n b_Slots c_Kind c_Slot c_End c_Arg) n ((0 : Int), ([] : List Int), ([] : List Int)))
theorem F65_ok (n : Nat) (b_Slots : List (Int × Int × (List Int) × List Int)) (c_Kind : Int) (c_Slot : Int) (c_End : Int) (c_Arg : Int) (r : Int × Int × (List Int) × (List Int) × Int × Int) (h : F65 n b_Slots c_Kind c_Slot c_End c_Arg = some r) : PureC Try.prog 65 [(.st (.arr 9 (.st (.pair (.int .i64) (.pair (.int .i64) (.pair (.arr 32 (.int .i64)) (.arr 32 (.int .i64)))))) b_Slots)), (.st (.cons (.int .i64 c_Kind) (.cons (.int .i64 c_Slot) (.cons (.int .i64 c_End) (.int .i64 c_Arg)))))] (.tup (.cons (.st (.cons (.int .i64 r.1) (.cons (.int .i64 r.2.1) (.cons (.arr 32 (.int .i64) r.2.2.1) (.arr 32 (.int .i64) r.2.2.2.1))))) (.cons (.int .i64 r.2.2.2.2.1) (.cons (.int .i64 r.2.2.2.2.2) .nil)))) [] := by
  refine PureC.mkS Try.func65 rfl rfl ?_
  intro w0 fz0 hfz
  replace h : (loopF (F65_l2 n b_Slots c_Kind c_Slot c_End c_Arg) n ((0 : Int), ([] : List Int), ([] : List Int))) = some r := h
  refine TS.seq ?_
  have hq : (True) ∧ ((True) ∧ ((True) ∧ ((True) ∧ ((True) ∧ (True))))) := ⟨trivial, ⟨trivial, ⟨trivial, ⟨trivial, ⟨trivial, trivial⟩⟩⟩⟩⟩
  refine TS.reg [] ?_ ?_
  · apply prop_of ?_ hq
    kernel_rfl
  refine XS.then ?_
  refine TS.seq ?_
  have hq : (True) ∧ ((True) ∧ ((True) ∧ (True))) := ⟨trivial, ⟨trivial, ⟨trivial, trivial⟩⟩⟩
  refine TS.reg [] ?_ ?_
  · apply prop_of ?_ hq
    kernel_rfl
  refine XS.then ?_
  refine TS.seq ?_
  have hq : (True) ∧ ((True) ∧ (True)) := ⟨trivial, ⟨trivial, trivial⟩⟩
  refine TS.reg [] ?_ ?_
  · apply prop_of ?_ hq
    kernel_rfl
  refine XS.then ?_
  refine TS.seq ?_
  refine TS.seq ?_
  have hq : (True) ∧ ((True) ∧ ((True) ∧ (True))) := ⟨trivial, ⟨trivial, ⟨trivial, trivial⟩⟩⟩
  refine TS.reg [] ?_ ?_
  · apply prop_of ?_ hq
    kernel_rfl
  refine XS.then ?_
  refine TS.block ?_
  refine TS.wk (.row false 8 [] 3 (.int .i64)) ?_
  refine TS.wk (.row false 9 [] 3 (.int .i64)) ?_
  refine TS.reLoop [0, 1, 2, 3, 4, 5] (mkMask 126 [2, 3, 4, 7, 8, 9, 20, 21]) (D := Int × (List Int) × (List Int)) (fun d => match d with | (x, m4, m5) => (mkTs 126 [(2, (.ptr 0 [])), (3, (.ptr 1 [])), (4, (.ptr 2 [])), (7, (.ptr 3 [])), (8, (.row 4)), (9, (.row 5)), (20, (.arr 9 (.st (.pair (.int .i64) (.pair (.int .i64) (.pair (.arr 32 (.int .i64)) (.arr 32 (.int .i64)))))) b_Slots)), (21, (.int .i64 x))], [(.box 36 (.st (.arr 9 (.st (.pair (.int .i64) (.pair (.int .i64) (.pair (.arr 32 (.int .i64)) (.arr 32 (.int .i64)))))) b_Slots))), (.box 23 (.st (.cons (.int .i64 c_Kind) (.cons (.int .i64 c_Slot) (.cons (.int .i64 c_End) (.int .i64 c_Arg)))))), (.box 33 (.st (.cons (.int .i64 (0 : Int)) (.cons (.int .i64 (0 : Int)) (.cons (.arr 32 (.int .i64) (List.replicate 32 (0 : Int))) (.arr 32 (.int .i64) (List.replicate 32 (0 : Int)))))))), (.box 33 (.st (.cons (.int .i64 (0 : Int)) (.cons (.int .i64 (0 : Int)) (.cons (.arr 32 (.int .i64) (List.replicate 32 (0 : Int))) (.arr 32 (.int .i64) (List.replicate 32 (0 : Int)))))))), (.row 3 (.int .i64) m4), (.row 3 (.int .i64) m5)])) (fun n' d => loopF (F65_l2 n b_Slots c_Kind c_Slot c_End c_Arg) n' d = some r) n ((0 : Int), ([] : List Int), ([] : List Int)) h ?_ (fun d => loopF_zero _ d r) ?_
  · kernel_rfl
  · rintro n2 ⟨x, m4, m5⟩ h
    replace h : (bif (decide (x < (9 : Int))) then (bif inb x 9 then (bif ((b_Slots.getD x.toNat ((0 : Int), ((0 : Int), ((List.replicate 32 (0 : Int)), (List.replicate 32 (0 : Int)))))).1 != (0 : Int)) then (bif (decide (m4.length + [x].length ≤ 17179869184)) then (bif (decide (m5.length + [(b_Slots.getD x.toNat ((0 : Int), ((0 : Int), ((List.replicate 32 (0 : Int)), (List.replicate 32 (0 : Int)))))).2.1].length ≤ 17179869184)) then ((loopF (F65_l2 n b_Slots c_Kind c_Slot c_End c_Arg) n2) ((IntKind.wrap .i64 (x + (1 : Int))), (m4 ++ [x]), (m5 ++ [(b_Slots.getD x.toNat ((0 : Int), ((0 : Int), ((List.replicate 32 (0 : Int)), (List.replicate 32 (0 : Int)))))).2.1]))) else none) else none) else ((loopF (F65_l2 n b_Slots c_Kind c_Slot c_End c_Arg) n2) ((IntKind.wrap .i64 (x + (1 : Int))), m4, m5))) else none) else ((F18 n b_Slots).bind fun y_7 => (bif (y_7 != (0 : Int)) then (some ((0 : Int), (0 : Int), (List.replicate 32 (0 : Int)), (List.replicate 32 (0 : Int)), (0 : Int), (0 : Int))) else (bif (c_Kind == (1 : Int)) then (some ((0 : Int), (0 : Int), (List.replicate 32 (0 : Int)), (List.replicate 32 (0 : Int)), (1 : Int), (0 : Int))) else (bif (c_Kind == (2 : Int)) then ((F86 n m4).bind fun y_8 => (bif (decide (y_8 ≤ (8 : Int))) then (some ((1 : Int), (0 : Int), (List.replicate 32 (0 : Int)), (List.replicate 32 (0 : Int)), (1 : Int), y_8)) else (some ((0 : Int), (0 : Int), (List.replicate 32 (0 : Int)), (List.replicate 32 (0 : Int)), (9 : Int), (0 : Int))))) else ((F19 n c_Kind (3 : Int) (9 : Int)).bind fun y_9 => (bif (!y_9) then (some ((0 : Int), (0 : Int), (List.replicate 32 (0 : Int)), (List.replicate 32 (0 : Int)), (5 : Int), (0 : Int))) else ((F19 n c_Slot (1 : Int) (8 : Int)).bind fun y_10 => (bif (!y_10) then (some ((0 : Int), (0 : Int), (List.replicate 32 (0 : Int)), (List.replicate 32 (0 : Int)), (5 : Int), (0 : Int))) else (bif inb c_Slot 9 then (bif ((b_Slots.getD c_Slot.toNat ((0 : Int), ((0 : Int), ((List.replicate 32 (0 : Int)), (List.replicate 32 (0 : Int)))))).1 == (0 : Int)) then (some ((b_Slots.getD c_Slot.toNat ((0 : Int), ((0 : Int), ((List.replicate 32 (0 : Int)), (List.replicate 32 (0 : Int)))))).1, (b_Slots.getD c_Slot.toNat ((0 : Int), ((0 : Int), ((List.replicate 32 (0 : Int)), (List.replicate 32 (0 : Int)))))).2.1, (b_Slots.getD c_Slot.toNat ((0 : Int), ((0 : Int), ((List.replicate 32 (0 : Int)), (List.replicate 32 (0 : Int)))))).2.2.1, (b_Slots.getD c_Slot.toNat ((0 : Int), ((0 : Int), ((List.replicate 32 (0 : Int)), (List.replicate 32 (0 : Int)))))).2.2.2, (11 : Int), c_Slot)) else (bif (c_Kind == (3 : Int)) then (some ((0 : Int), (0 : Int), (List.replicate 32 (0 : Int)), (List.replicate 32 (0 : Int)), (1 : Int), c_Slot)) else (bif (c_Kind == (4 : Int)) then (bif ((b_Slots.getD c_Slot.toNat ((0 : Int), ((0 : Int), ((List.replicate 32 (0 : Int)), (List.replicate 32 (0 : Int)))))).1 != (1 : Int)) then (some ((b_Slots.getD c_Slot.toNat ((0 : Int), ((0 : Int), ((List.replicate 32 (0 : Int)), (List.replicate 32 (0 : Int)))))).1, (b_Slots.getD c_Slot.toNat ((0 : Int), ((0 : Int), ((List.replicate 32 (0 : Int)), (List.replicate 32 (0 : Int)))))).2.1, (b_Slots.getD c_Slot.toNat ((0 : Int), ((0 : Int), ((List.replicate 32 (0 : Int)), (List.replicate 32 (0 : Int)))))).2.2.1, (b_Slots.getD c_Slot.toNat ((0 : Int), ((0 : Int), ((List.replicate 32 (0 : Int)), (List.replicate 32 (0 : Int)))))).2.2.2, (19 : Int), c_Slot)) else ((F86 n m5).bind fun y_11 => (some ((2 : Int), y_11, (((b_Slots.getD c_Slot.toNat ((0 : Int), ((0 : Int), ((List.replicate 32 (0 : Int)), (List.replicate 32 (0 : Int)))))).2.2.1).set 1 (1 : Int)), (b_Slots.getD c_Slot.toNat ((0 : Int), ((0 : Int), ((List.replicate 32 (0 : Int)), (List.replicate 32 (0 : Int)))))).2.2.2, (1 : Int), c_Slot)))) else (bif (c_Kind == (5 : Int)) then ((F87 n ((b_Slots.getD c_Slot.toNat ((0 : Int), ((0 : Int), ((List.replicate 32 (0 : Int)), (List.replicate 32 (0 : Int)))))).1) ((b_Slots.getD c_Slot.toNat ((0 : Int), ((0 : Int), ((List.replicate 32 (0 : Int)), (List.replicate 32 (0 : Int)))))).2.1) ((b_Slots.getD c_Slot.toNat ((0 : Int), ((0 : Int), ((List.replicate 32 (0 : Int)), (List.replicate 32 (0 : Int)))))).2.2.1) ((b_Slots.getD c_Slot.toNat ((0 : Int), ((0 : Int), ((List.replicate 32 (0 : Int)), (List.replicate 32 (0 : Int)))))).2.2.2) c_Arg).bind fun y_12 => (some (y_12.1, y_12.2.1, y_12.2.2.1, y_12.2.2.2.1, y_12.2.2.2.2, c_Slot))) else ((F88 n ((b_Slots.getD c_Slot.toNat ((0 : Int), ((0 : Int), ((List.replicate 32 (0 : Int)), (List.replicate 32 (0 : Int)))))).1) ((b_Slots.getD c_Slot.toNat ((0 : Int), ((0 : Int), ((List.replicate 32 (0 : Int)), (List.replicate 32 (0 : Int)))))).2.1) ((b_Slots.getD c_Slot.toNat ((0 : Int), ((0 : Int), ((List.replicate 32 (0 : Int)), (List.replicate 32 (0 : Int)))))).2.2.1) ((b_Slots.getD c_Slot.toNat ((0 : Int), ((0 : Int), ((List.replicate 32 (0 : Int)), (List.replicate 32 (0 : Int)))))).2.2.2) c_Kind c_Slot c_End c_Arg).bind fun y_13 => (some (y_13.1, y_13.2.1, y_13.2.2.1, y_13.2.2.2.1, y_13.2.2.2.2, c_Slot))))))) else none)))))))))) = some r := h
    refine TS.seq ?_
    have hq : (True) ∧ (True) := ⟨trivial, trivial⟩
    refine TS.reg [] ?_ ?_
    · apply prop_of ?_ hq
      kernel_rfl
    refine XS.then ?_
    refine TS.seq ?_
    rcases bif_some h with ⟨c1, h⟩ | ⟨c2, h⟩
    · refine TS.cond (decide (x < (9 : Int))) ?_ (fun e => ?_) (fun e => by rw [c1] at e; cases e)
      · kernel_rfl
      refine TS.skip ?_
      refine XS.then ?_
      refine TS.seq ?_
      refine TS.block ?_
      refine TS.seq ?_
      obtain ⟨t3, h⟩ := test_some h
      have hq : (True) ∧ ((inR x 9) ∧ ((True) ∧ ((True) ∧ ((True) ∧ (True))))) := ⟨trivial, ⟨inb_ok t3, ⟨trivial, ⟨trivial, ⟨trivial, trivial⟩⟩⟩⟩⟩
      refine TS.reg [] ?_ ?_
      · apply prop_of ?_ hq
        kernel_rfl
      refine XS.then ?_
      refine TS.seq ?_
      have hq : (True) ∧ ((True) ∧ ((True) ∧ (True))) := ⟨trivial, ⟨trivial, ⟨trivial, trivial⟩⟩⟩
      refine TS.reg [] ?_ ?_
      · apply prop_of ?_ hq
        kernel_rfl
      refine XS.then ?_
      rcases bif_some h with ⟨c4, h⟩ | ⟨c5, h⟩
      · refine TS.cond ((b_Slots.getD x.toNat ((0 : Int), ((0 : Int), ((List.replicate 32 (0 : Int)), (List.replicate 32 (0 : Int)))))).1 != (0 : Int)) ?_ (fun e => ?_) (fun e => by rw [c4] at e; cases e)
        · kernel_rfl
        refine TS.seq ?_
        obtain ⟨t6, h⟩ := test_some h
        have hq : (True) ∧ ((True) ∧ (((0 < 1 ∧ True) ∧ (True)) ∧ ((m4.length + [x].length ≤ 17179869184) ∧ ((True) ∧ (True))))) := ⟨trivial, ⟨trivial, ⟨⟨⟨by decide, trivial⟩, trivial⟩, ⟨of_decide_eq_true t6, ⟨trivial, trivial⟩⟩⟩⟩⟩
        refine TS.reg [] ?_ ?_
        · apply prop_of ?_ hq
          kernel_rfl
        refine XS.then ?_
        obtain ⟨t7, h⟩ := test_some h
        have hq : (True) ∧ ((True) ∧ ((True) ∧ (((0 < 1 ∧ True) ∧ (True)) ∧ ((m5.length + [(b_Slots.getD x.toNat ((0 : Int), ((0 : Int), ((List.replicate 32 (0 : Int)), (List.replicate 32 (0 : Int)))))).2.1].length ≤ 17179869184) ∧ ((True) ∧ (True)))))) := ⟨trivial, ⟨trivial, ⟨trivial, ⟨⟨⟨by decide, trivial⟩, trivial⟩, ⟨of_decide_eq_true t7, ⟨trivial, trivial⟩⟩⟩⟩⟩⟩
        refine TS.reg [] ?_ ?_
        · apply prop_of ?_ hq
          kernel_rfl
        refine XS.blockEnd ?_
        refine XS.then ?_
        have hq : (True) ∧ ((True) ∧ (True)) := ⟨trivial, ⟨trivial, trivial⟩⟩
        refine TS.reg [] ?_ ?_
        · apply prop_of ?_ hq
          kernel_rfl
        refine XS.reAny [0, 1, 2, 3, 8, 10] (mkMask 126 [2, 3, 4, 7, 8, 9, 20, 21]) ((IntKind.wrap .i64 (x + (1 : Int))), (m4 ++ [x]), (m5 ++ [(b_Slots.getD x.toNat ((0 : Int), ((0 : Int), ((List.replicate 32 (0 : Int)), (List.replicate 32 (0 : Int)))))).2.1])) h ?_
        kernel_rfl
      · refine TS.cond ((b_Slots.getD x.toNat ((0 : Int), ((0 : Int), ((List.replicate 32 (0 : Int)), (List.replicate 32 (0 : Int)))))).1 != (0 : Int)) ?_ (fun e => by rw [c5] at e; cases e) (fun e => ?_)
        · kernel_rfl
        refine TS.skip ?_
        refine XS.blockEnd ?_
        refine XS.then ?_
        have hq : (True) ∧ ((True) ∧ (True)) := ⟨trivial, ⟨trivial, trivial⟩⟩
        refine TS.reg [] ?_ ?_
        · apply prop_of ?_ hq
          kernel_rfl
        refine XS.reAny [0, 1, 2, 3, 4, 5] (mkMask 126 [2, 3, 4, 7, 8, 9, 20, 21]) ((IntKind.wrap .i64 (x + (1 : Int))), m4, m5) h ?_
        kernel_rfl
    · refine TS.cond (decide (x < (9 : Int))) ?_ (fun e => by rw [c2] at e; cases e) (fun e => ?_)
      · kernel_rfl
      refine TS.exit ?_
      refine XS.passE ?_
      refine XS.passE ?_
      refine XS.out ?_
      refine XS.then ?_
      refine TS.seq ?_
      refine TS.seq ?_
      obtain ⟨y_7, hx8, h⟩ := bind_some' h
      have hq : (True) ∧ ((PureC Try.prog 18 [(.st (.arr 9 (.st (.pair (.int .i64) (.pair (.int .i64) (.pair (.arr 32 (.int .i64)) (.arr 32 (.int .i64)))))) b_Slots))] (.int .i64 y_7) []) ∧ ((True) ∧ (True))) := ⟨trivial, ⟨F18_ok n b_Slots y_7 hx8, ⟨trivial, trivial⟩⟩⟩
      refine TS.reg [.none, (.call (.int .i64 y_7) [])] ?_ ?_
      · apply prop_of ?_ hq
        kernel_rfl
      refine XS.then ?_
      rcases bif_some h with ⟨c9, h⟩ | ⟨c10, h⟩
      · refine TS.cond (y_7 != (0 : Int)) ?_ (fun e => ?_) (fun e => by rw [c9] at e; cases e)
        · kernel_rfl
        refine TS.seq ?_
        have hq : (True) ∧ ((True) ∧ ((True) ∧ ((True) ∧ (True)))) := ⟨trivial, ⟨trivial, ⟨trivial, ⟨trivial, trivial⟩⟩⟩⟩
        refine TS.reg [] ?_ ?_
        · apply prop_of ?_ hq
          kernel_rfl
        refine XS.then ?_
        refine TS.ret ?_
        refine XS.passR ?_
        obtain rfl : ((0 : Int), (0 : Int), (List.replicate 32 (0 : Int)), (List.replicate 32 (0 : Int)), (0 : Int), (0 : Int)) = r := Option.some.inj h
        exact XS.fin [] ((True) ∧ ((True) ∧ ((True) ∧ (True)))) (by kernel_rfl) ⟨trivial, ⟨trivial, ⟨trivial, trivial⟩⟩⟩
      · refine TS.cond (y_7 != (0 : Int)) ?_ (fun e => by rw [c10] at e; cases e) (fun e => ?_)
        · kernel_rfl
        refine TS.skip ?_
        refine XS.then ?_
        refine TS.seq ?_
        refine TS.seq ?_
        have hq : (True) ∧ ((True) ∧ ((True) ∧ (True))) := ⟨trivial, ⟨trivial, ⟨trivial, trivial⟩⟩⟩
        refine TS.reg [] ?_ ?_
        · apply prop_of ?_ hq
          kernel_rfl
        refine XS.then ?_
        rcases bif_some h with ⟨c11, h⟩ | ⟨c12, h⟩
        · refine TS.cond (c_Kind == (1 : Int)) ?_ (fun e => ?_) (fun e => by rw [c11] at e; cases e)
          · kernel_rfl
          refine TS.seq ?_
          have hq : (True) ∧ ((True) ∧ ((True) ∧ ((True) ∧ (True)))) := ⟨trivial, ⟨trivial, ⟨trivial, ⟨trivial, trivial⟩⟩⟩⟩
          refine TS.reg [] ?_ ?_
          · apply prop_of ?_ hq
            kernel_rfl
          refine XS.then ?_
          refine TS.ret ?_
          refine XS.passR ?_
          obtain rfl : ((0 : Int), (0 : Int), (List.replicate 32 (0 : Int)), (List.replicate 32 (0 : Int)), (1 : Int), (0 : Int)) = r := Option.some.inj h
          exact XS.fin [] ((True) ∧ ((True) ∧ ((True) ∧ (True)))) (by kernel_rfl) ⟨trivial, ⟨trivial, ⟨trivial, trivial⟩⟩⟩
        · refine TS.cond (c_Kind == (1 : Int)) ?_ (fun e => by rw [c12] at e; cases e) (fun e => ?_)
          · kernel_rfl
          refine TS.skip ?_
          refine XS.then ?_
          refine TS.seq ?_
          refine TS.seq ?_
          have hq : (True) ∧ ((True) ∧ ((True) ∧ (True))) := ⟨trivial, ⟨trivial, ⟨trivial, trivial⟩⟩⟩
          refine TS.reg [] ?_ ?_
          · apply prop_of ?_ hq
            kernel_rfl
          refine XS.then ?_
          rcases bif_some h with ⟨c13, h⟩ | ⟨c14, h⟩
          · refine TS.cond (c_Kind == (2 : Int)) ?_ (fun e => ?_) (fun e => by rw [c13] at e; cases e)
            · kernel_rfl
            refine TS.seq ?_
            refine TS.seq ?_
            obtain ⟨y_8, hx15, h⟩ := bind_some' h
            have hq : (True) ∧ ((((True) ∧ (True)) ∧ PureC Try.prog 86 [(.sl (.int .i64) m4)] (.int .i64 y_8) []) ∧ ((True) ∧ (True))) := ⟨trivial, ⟨⟨⟨trivial, trivial⟩, F86_ok n m4 y_8 hx15⟩, ⟨trivial, trivial⟩⟩⟩
            refine TS.reg [.none, (.call (.int .i64 y_8) [])] ?_ ?_
            · apply prop_of ?_ hq
              kernel_rfl
            refine XS.then ?_
            refine TS.seq ?_
            have hq : (True) ∧ ((True) ∧ (True)) := ⟨trivial, ⟨trivial, trivial⟩⟩
            refine TS.reg [] ?_ ?_
            · apply prop_of ?_ hq
              kernel_rfl
            refine XS.then ?_
            rcases bif_some h with ⟨c16, h⟩ | ⟨c17, h⟩
            · refine TS.cond (decide (y_8 ≤ (8 : Int))) ?_ (fun e => ?_) (fun e => by rw [c16] at e; cases e)
              · kernel_rfl
              refine TS.seq ?_
              have hq : ((True) ∧ (True)) ∧ ((True) ∧ ((True) ∧ ((True) ∧ ((True) ∧ (True))))) := ⟨⟨trivial, trivial⟩, ⟨trivial, ⟨trivial, ⟨trivial, ⟨trivial, trivial⟩⟩⟩⟩⟩
              refine TS.reg [] ?_ ?_
              · apply prop_of ?_ hq
                kernel_rfl
              refine XS.then ?_
              refine TS.ret ?_
              refine XS.passR ?_
              refine XS.passR ?_
              obtain rfl : ((1 : Int), (0 : Int), (List.replicate 32 (0 : Int)), (List.replicate 32 (0 : Int)), (1 : Int), y_8) = r := Option.some.inj h
              exact XS.fin [] ((True) ∧ ((True) ∧ ((True) ∧ (True)))) (by kernel_rfl) ⟨trivial, ⟨trivial, ⟨trivial, trivial⟩⟩⟩
            · refine TS.cond (decide (y_8 ≤ (8 : Int))) ?_ (fun e => by rw [c17] at e; cases e) (fun e => ?_)
              · kernel_rfl
              refine TS.skip ?_
              refine XS.then ?_
              refine TS.seq ?_
              have hq : (True) ∧ ((True) ∧ ((True) ∧ ((True) ∧ (True)))) := ⟨trivial, ⟨trivial, ⟨trivial, ⟨trivial, trivial⟩⟩⟩⟩
              refine TS.reg [] ?_ ?_
              · apply prop_of ?_ hq
                kernel_rfl
              refine XS.then ?_
              refine TS.ret ?_
              refine XS.passR ?_
              obtain rfl : ((0 : Int), (0 : Int), (List.replicate 32 (0 : Int)), (List.replicate 32 (0 : Int)), (9 : Int), (0 : Int)) = r := Option.some.inj h
              exact XS.fin [] ((True) ∧ ((True) ∧ ((True) ∧ (True)))) (by kernel_rfl) ⟨trivial, ⟨trivial, ⟨trivial, trivial⟩⟩⟩
          · refine TS.cond (c_Kind == (2 : Int)) ?_ (fun e => by rw [c14] at e; cases e) (fun e => ?_)
            · kernel_rfl
            refine TS.skip ?_
            refine XS.then ?_
            refine TS.seq ?_
            refine TS.seq ?_
            obtain ⟨y_9, hx18, h⟩ := bind_some' h
            rcases bif_some h with ⟨c19, h⟩ | ⟨c20, h⟩
            · have hq : (True) ∧ ((True) ∧ ((PureC Try.prog 19 [(.int .i64 c_Kind), (.int .i64 (3 : Int)), (.int .i64 (9 : Int))] (.bool y_9) []) ∧ ((True) ∧ (((True) ∧ (!y_9) = true) ∧ ((True) ∧ (True)))))) := ⟨trivial, ⟨trivial, ⟨F19_ok n c_Kind (3 : Int) (9 : Int) y_9 hx18, ⟨trivial, ⟨⟨trivial, c19⟩, ⟨trivial, trivial⟩⟩⟩⟩⟩⟩
              refine TS.reg [.none, .none, (.call (.bool y_9) []), .none, .dec true] ?_ ?_
              · apply prop_of ?_ hq
                kernel_rfl
              refine XS.then ?_
              refine TS.yes ?_ ?_
              · kernel_rfl
              refine TS.seq ?_
              have hq : (True) ∧ ((True) ∧ ((True) ∧ ((True) ∧ (True)))) := ⟨trivial, ⟨trivial, ⟨trivial, ⟨trivial, trivial⟩⟩⟩⟩
              refine TS.reg [] ?_ ?_
              · apply prop_of ?_ hq
                kernel_rfl
              refine XS.then ?_
              refine TS.ret ?_
              refine XS.passR ?_
              obtain rfl : ((0 : Int), (0 : Int), (List.replicate 32 (0 : Int)), (List.replicate 32 (0 : Int)), (5 : Int), (0 : Int)) = r := Option.some.inj h
              exact XS.fin [] ((True) ∧ ((True) ∧ ((True) ∧ (True)))) (by kernel_rfl) ⟨trivial, ⟨trivial, ⟨trivial, trivial⟩⟩⟩
            · obtain ⟨y_10, hx21, h⟩ := bind_some' h
              have hq : (True) ∧ ((True) ∧ ((PureC Try.prog 19 [(.int .i64 c_Kind), (.int .i64 (3 : Int)), (.int .i64 (9 : Int))] (.bool y_9) []) ∧ ((True) ∧ (((True) ∧ (!y_9) = false) ∧ ((True) ∧ ((True) ∧ ((PureC Try.prog 19 [(.int .i64 c_Slot), (.int .i64 (1 : Int)), (.int .i64 (8 : Int))] (.bool y_10) []) ∧ ((True) ∧ ((True) ∧ (True)))))))))) := ⟨trivial, ⟨trivial, ⟨F19_ok n c_Kind (3 : Int) (9 : Int) y_9 hx18, ⟨trivial, ⟨⟨trivial, c20⟩, ⟨trivial, ⟨trivial, ⟨F19_ok n c_Slot (1 : Int) (8 : Int) y_10 hx21, ⟨trivial, ⟨trivial, trivial⟩⟩⟩⟩⟩⟩⟩⟩⟩⟩
              refine TS.reg [.none, .none, (.call (.bool y_9) []), .none, .dec false, .none, .none, (.call (.bool y_10) [])] ?_ ?_
              · apply prop_of ?_ hq
                kernel_rfl
              refine XS.then ?_
              rcases bif_some h with ⟨c22, h⟩ | ⟨c23, h⟩
              · refine TS.cond (!y_10) ?_ (fun e => ?_) (fun e => by rw [c22] at e; cases e)
                · kernel_rfl
                refine TS.seq ?_
                have hq : (True) ∧ ((True) ∧ ((True) ∧ ((True) ∧ (True)))) := ⟨trivial, ⟨trivial, ⟨trivial, ⟨trivial, trivial⟩⟩⟩⟩
                refine TS.reg [] ?_ ?_
                · apply prop_of ?_ hq
                  kernel_rfl
                refine XS.then ?_
                refine TS.ret ?_
                refine XS.passR ?_
                obtain rfl : ((0 : Int), (0 : Int), (List.replicate 32 (0 : Int)), (List.replicate 32 (0 : Int)), (5 : Int), (0 : Int)) = r := Option.some.inj h
                exact XS.fin [] ((True) ∧ ((True) ∧ ((True) ∧ (True)))) (by kernel_rfl) ⟨trivial, ⟨trivial, ⟨trivial, trivial⟩⟩⟩
              · refine TS.cond (!y_10) ?_ (fun e => by rw [c23] at e; cases e) (fun e => ?_)
                · kernel_rfl
                refine TS.skip ?_
                refine XS.then ?_
                refine TS.seq ?_
                obtain ⟨t24, h⟩ := test_some h
                have hq : (True) ∧ ((True) ∧ ((True) ∧ ((inR c_Slot 9) ∧ ((c_Slot.toNat < 9 ∧ (True)) ∧ ((True) ∧ ((True) ∧ (True))))))) := ⟨trivial, ⟨trivial, ⟨trivial, ⟨inb_ok t24, ⟨⟨inR_lt (inb_ok t24), trivial⟩, ⟨trivial, ⟨trivial, trivial⟩⟩⟩⟩⟩⟩⟩
                refine TS.reg [] ?_ ?_
                · apply prop_of ?_ hq
                  kernel_rfl
                refine XS.then ?_
                refine TS.seq ?_
                refine TS.seq ?_
                have hq : (True) ∧ ((True) ∧ ((True) ∧ (True))) := ⟨trivial, ⟨trivial, ⟨trivial, trivial⟩⟩⟩
                refine TS.reg [] ?_ ?_
                · apply prop_of ?_ hq
                  kernel_rfl
                refine XS.then ?_
                rcases bif_some h with ⟨c25, h⟩ | ⟨c26, h⟩
                · refine TS.cond ((b_Slots.getD c_Slot.toNat ((0 : Int), ((0 : Int), ((List.replicate 32 (0 : Int)), (List.replicate 32 (0 : Int)))))).1 == (0 : Int)) ?_ (fun e => ?_) (fun e => by rw [c25] at e; cases e)
                  · kernel_rfl
                  refine TS.seq ?_
                  have hq : ((True) ∧ ((True) ∧ ((True) ∧ ((True) ∧ ((True) ∧ (True)))))) ∧ ((True) ∧ (True)) := ⟨⟨trivial, ⟨trivial, ⟨trivial, ⟨trivial, ⟨trivial, trivial⟩⟩⟩⟩⟩, ⟨trivial, trivial⟩⟩
                  refine TS.draw 5 [(3, 2)] [] (by kernel_rfl) ?_ ?_
                  · apply prop_of ?_ hq
                    kernel_rfl
                  refine XS.then ?_
                  refine TS.ret ?_
                  refine XS.passR ?_
                  obtain rfl : ((b_Slots.getD c_Slot.toNat ((0 : Int), ((0 : Int), ((List.replicate 32 (0 : Int)), (List.replicate 32 (0 : Int)))))).1, (b_Slots.getD c_Slot.toNat ((0 : Int), ((0 : Int), ((List.replicate 32 (0 : Int)), (List.replicate 32 (0 : Int)))))).2.1, (b_Slots.getD c_Slot.toNat ((0 : Int), ((0 : Int), ((List.replicate 32 (0 : Int)), (List.replicate 32 (0 : Int)))))).2.2.1, (b_Slots.getD c_Slot.toNat ((0 : Int), ((0 : Int), ((List.replicate 32 (0 : Int)), (List.replicate 32 (0 : Int)))))).2.2.2, (11 : Int), c_Slot) = r := Option.some.inj h
                  exact XS.fin [] ((True) ∧ ((True) ∧ ((True) ∧ (True)))) (by kernel_rfl) ⟨trivial, ⟨trivial, ⟨trivial, trivial⟩⟩⟩
                · refine TS.cond ((b_Slots.getD c_Slot.toNat ((0 : Int), ((0 : Int), ((List.replicate 32 (0 : Int)), (List.replicate 32 (0 : Int)))))).1 == (0 : Int)) ?_ (fun e => by rw [c26] at e; cases e) (fun e => ?_)
                  · kernel_rfl
                  refine TS.skip ?_
                  refine XS.then ?_
                  refine TS.seq ?_
                  refine TS.seq ?_
                  have hq : (True) ∧ ((True) ∧ ((True) ∧ (True))) := ⟨trivial, ⟨trivial, ⟨trivial, trivial⟩⟩⟩
                  refine TS.reg [] ?_ ?_
                  · apply prop_of ?_ hq
                    kernel_rfl
                  refine XS.then ?_
                  rcases bif_some h with ⟨c27, h⟩ | ⟨c28, h⟩
                  · refine TS.cond (c_Kind == (3 : Int)) ?_ (fun e => ?_) (fun e => by rw [c27] at e; cases e)
                    · kernel_rfl
                    refine TS.seq ?_
                    have hq : ((True) ∧ ((True) ∧ ((True) ∧ ((True) ∧ ((True) ∧ (True)))))) ∧ ((True) ∧ (True)) := ⟨⟨trivial, ⟨trivial, ⟨trivial, ⟨trivial, ⟨trivial, trivial⟩⟩⟩⟩⟩, ⟨trivial, trivial⟩⟩
                    refine TS.draw 5 [(3, 2)] [] (by kernel_rfl) ?_ ?_
                    · apply prop_of ?_ hq
                      kernel_rfl
                    refine XS.then ?_
                    refine TS.ret ?_
                    refine XS.passR ?_
                    obtain rfl : ((0 : Int), (0 : Int), (List.replicate 32 (0 : Int)), (List.replicate 32 (0 : Int)), (1 : Int), c_Slot) = r := Option.some.inj h
                    exact XS.fin [] ((True) ∧ ((True) ∧ ((True) ∧ (True)))) (by kernel_rfl) ⟨trivial, ⟨trivial, ⟨trivial, trivial⟩⟩⟩
                  · refine TS.cond (c_Kind == (3 : Int)) ?_ (fun e => by rw [c28] at e; cases e) (fun e => ?_)
                    · kernel_rfl
                    refine TS.skip ?_
                    refine XS.then ?_
                    refine TS.seq ?_
                    refine TS.seq ?_
                    have hq : (True) ∧ ((True) ∧ ((True) ∧ (True))) := ⟨trivial, ⟨trivial, ⟨trivial, trivial⟩⟩⟩
                    refine TS.reg [] ?_ ?_
                    · apply prop_of ?_ hq
                      kernel_rfl
                    refine XS.then ?_
                    rcases bif_some h with ⟨c29, h⟩ | ⟨c30, h⟩
                    · refine TS.cond (c_Kind == (4 : Int)) ?_ (fun e => ?_) (fun e => by rw [c29] at e; cases e)
                      · kernel_rfl
                      refine TS.seq ?_
                      refine TS.seq ?_
                      have hq : (True) ∧ ((True) ∧ ((True) ∧ (True))) := ⟨trivial, ⟨trivial, ⟨trivial, trivial⟩⟩⟩
                      refine TS.reg [] ?_ ?_
                      · apply prop_of ?_ hq
                        kernel_rfl
                      refine XS.then ?_
                      rcases bif_some h with ⟨c31, h⟩ | ⟨c32, h⟩
                      · refine TS.cond ((b_Slots.getD c_Slot.toNat ((0 : Int), ((0 : Int), ((List.replicate 32 (0 : Int)), (List.replicate 32 (0 : Int)))))).1 != (1 : Int)) ?_ (fun e => ?_) (fun e => by rw [c31] at e; cases e)
                        · kernel_rfl
                        refine TS.seq ?_
                        have hq : ((True) ∧ ((True) ∧ ((True) ∧ ((True) ∧ ((True) ∧ (True)))))) ∧ ((True) ∧ (True)) := ⟨⟨trivial, ⟨trivial, ⟨trivial, ⟨trivial, ⟨trivial, trivial⟩⟩⟩⟩⟩, ⟨trivial, trivial⟩⟩
                        refine TS.draw 5 [(3, 2)] [] (by kernel_rfl) ?_ ?_
                        · apply prop_of ?_ hq
                          kernel_rfl
                        refine XS.then ?_
                        refine TS.ret ?_
                        refine XS.passR ?_
                        refine XS.passR ?_
                        obtain rfl : ((b_Slots.getD c_Slot.toNat ((0 : Int), ((0 : Int), ((List.replicate 32 (0 : Int)), (List.replicate 32 (0 : Int)))))).1, (b_Slots.getD c_Slot.toNat ((0 : Int), ((0 : Int), ((List.replicate 32 (0 : Int)), (List.replicate 32 (0 : Int)))))).2.1, (b_Slots.getD c_Slot.toNat ((0 : Int), ((0 : Int), ((List.replicate 32 (0 : Int)), (List.replicate 32 (0 : Int)))))).2.2.1, (b_Slots.getD c_Slot.toNat ((0 : Int), ((0 : Int), ((List.replicate 32 (0 : Int)), (List.replicate 32 (0 : Int)))))).2.2.2, (19 : Int), c_Slot) = r := Option.some.inj h
                        exact XS.fin [] ((True) ∧ ((True) ∧ ((True) ∧ (True)))) (by kernel_rfl) ⟨trivial, ⟨trivial, ⟨trivial, trivial⟩⟩⟩
                      · refine TS.cond ((b_Slots.getD c_Slot.toNat ((0 : Int), ((0 : Int), ((List.replicate 32 (0 : Int)), (List.replicate 32 (0 : Int)))))).1 != (1 : Int)) ?_ (fun e => by rw [c32] at e; cases e) (fun e => ?_)
                        · kernel_rfl
                        refine TS.skip ?_
                        refine XS.then ?_
                        refine TS.seq ?_
                        obtain ⟨y_11, hx33, h⟩ := bind_some' h
                        have hq : (True) ∧ ((((True) ∧ (True)) ∧ PureC Try.prog 86 [(.sl (.int .i64) m5)] (.int .i64 y_11) []) ∧ ((True) ∧ ((True) ∧ ((True) ∧ ((True) ∧ ((True) ∧ ((inR (1 : Int) 32) ∧ ((1 < 32 ∧ (True)) ∧ (True))))))))) := ⟨trivial, ⟨⟨⟨trivial, trivial⟩, F86_ok n m5 y_11 hx33⟩, ⟨trivial, ⟨trivial, ⟨trivial, ⟨trivial, ⟨trivial, ⟨⟨by decide, by decide⟩, ⟨⟨(by decide), trivial⟩, trivial⟩⟩⟩⟩⟩⟩⟩⟩⟩
                        refine TS.reg [.none, (.call (.int .i64 y_11) [])] ?_ ?_
                        · apply prop_of ?_ hq
                          kernel_rfl
                        refine XS.then ?_
                        refine TS.seq ?_
                        have hq : ((True) ∧ ((True) ∧ ((True) ∧ ((True) ∧ ((True) ∧ (True)))))) ∧ ((True) ∧ (True)) := ⟨⟨trivial, ⟨trivial, ⟨trivial, ⟨trivial, ⟨trivial, trivial⟩⟩⟩⟩⟩, ⟨trivial, trivial⟩⟩
                        refine TS.draw 5 [(3, 2)] [] (by kernel_rfl) ?_ ?_
                        · apply prop_of ?_ hq
                          kernel_rfl
                        refine XS.then ?_
                        refine TS.ret ?_
                        refine XS.passR ?_
                        obtain rfl : ((2 : Int), y_11, (((b_Slots.getD c_Slot.toNat ((0 : Int), ((0 : Int), ((List.replicate 32 (0 : Int)), (List.replicate 32 (0 : Int)))))).2.2.1).set 1 (1 : Int)), (b_Slots.getD c_Slot.toNat ((0 : Int), ((0 : Int), ((List.replicate 32 (0 : Int)), (List.replicate 32 (0 : Int)))))).2.2.2, (1 : Int), c_Slot) = r := Option.some.inj h
                        exact XS.fin [] ((True) ∧ ((True) ∧ ((True) ∧ (True)))) (by kernel_rfl) ⟨trivial, ⟨trivial, ⟨trivial, trivial⟩⟩⟩
                    · refine TS.cond (c_Kind == (4 : Int)) ?_ (fun e => by rw [c30] at e; cases e) (fun e => ?_)
                      · kernel_rfl
                      refine TS.skip ?_
                      refine XS.then ?_
                      refine TS.seq ?_
                      refine TS.seq ?_
                      have hq : (True) ∧ ((True) ∧ ((True) ∧ (True))) := ⟨trivial, ⟨trivial, ⟨trivial, trivial⟩⟩⟩
                      refine TS.reg [] ?_ ?_
                      · apply prop_of ?_ hq
                        kernel_rfl
                      refine XS.then ?_
                      rcases bif_some h with ⟨c34, h⟩ | ⟨c35, h⟩
                      · refine TS.cond (c_Kind == (5 : Int)) ?_ (fun e => ?_) (fun e => by rw [c34] at e; cases e)
                        · kernel_rfl
                        refine TS.seq ?_
                        obtain ⟨y_12, hx36, h⟩ := bind_some' h
                        have hq : (True) ∧ ((True) ∧ ((True) ∧ ((PureC Try.prog 87 [(.st (.cons (.int .i64 (b_Slots.getD c_Slot.toNat ((0 : Int), ((0 : Int), ((List.replicate 32 (0 : Int)), (List.replicate 32 (0 : Int)))))).1) (.cons (.int .i64 (b_Slots.getD c_Slot.toNat ((0 : Int), ((0 : Int), ((List.replicate 32 (0 : Int)), (List.replicate 32 (0 : Int)))))).2.1) (.cons (.arr 32 (.int .i64) (b_Slots.getD c_Slot.toNat ((0 : Int), ((0 : Int), ((List.replicate 32 (0 : Int)), (List.replicate 32 (0 : Int)))))).2.2.1) (.arr 32 (.int .i64) (b_Slots.getD c_Slot.toNat ((0 : Int), ((0 : Int), ((List.replicate 32 (0 : Int)), (List.replicate 32 (0 : Int)))))).2.2.2))))), (.int .i64 c_Arg)] (.tup (.cons (.st (.cons (.int .i64 y_12.1) (.cons (.int .i64 y_12.2.1) (.cons (.arr 32 (.int .i64) y_12.2.2.1) (.arr 32 (.int .i64) y_12.2.2.2.1))))) (.cons (.int .i64 y_12.2.2.2.2) .nil))) []) ∧ ((True) ∧ ((True) ∧ ((True) ∧ ((True) ∧ ((True) ∧ ((True) ∧ (True)))))))))) := ⟨trivial, ⟨trivial, ⟨trivial, ⟨F87_ok n ((b_Slots.getD c_Slot.toNat ((0 : Int), ((0 : Int), ((List.replicate 32 (0 : Int)), (List.replicate 32 (0 : Int)))))).1) ((b_Slots.getD c_Slot.toNat ((0 : Int), ((0 : Int), ((List.replicate 32 (0 : Int)), (List.replicate 32 (0 : Int)))))).2.1) ((b_Slots.getD c_Slot.toNat ((0 : Int), ((0 : Int), ((List.replicate 32 (0 : Int)), (List.replicate 32 (0 : Int)))))).2.2.1) ((b_Slots.getD c_Slot.toNat ((0 : Int), ((0 : Int), ((List.replicate 32 (0 : Int)), (List.replicate 32 (0 : Int)))))).2.2.2) c_Arg y_12 hx36, ⟨trivial, ⟨trivial, ⟨trivial, ⟨trivial, ⟨trivial, ⟨trivial, trivial⟩⟩⟩⟩⟩⟩⟩⟩⟩⟩
                        refine TS.reg [.none, .none, .none, (.call (.tup (.cons (.st (.cons (.int .i64 y_12.1) (.cons (.int .i64 y_12.2.1) (.cons (.arr 32 (.int .i64) y_12.2.2.1) (.arr 32 (.int .i64) y_12.2.2.2.1))))) (.cons (.int .i64 y_12.2.2.2.2) .nil))) [])] ?_ ?_
                        · apply prop_of ?_ hq
                          kernel_rfl
                        refine XS.then ?_
                        refine TS.seq ?_
                        have hq : ((True) ∧ ((True) ∧ ((True) ∧ ((True) ∧ ((True) ∧ ((True) ∧ (True))))))) ∧ ((True) ∧ (True)) := ⟨⟨trivial, ⟨trivial, ⟨trivial, ⟨trivial, ⟨trivial, ⟨trivial, trivial⟩⟩⟩⟩⟩⟩, ⟨trivial, trivial⟩⟩
                        refine TS.draw 6 [(4, 2)] [] (by kernel_rfl) ?_ ?_
                        · apply prop_of ?_ hq
                          kernel_rfl
                        refine XS.then ?_
                        refine TS.ret ?_
                        refine XS.passR ?_
                        obtain rfl : (y_12.1, y_12.2.1, y_12.2.2.1, y_12.2.2.2.1, y_12.2.2.2.2, c_Slot) = r := Option.some.inj h
                        exact XS.fin [] ((True) ∧ ((True) ∧ ((True) ∧ (True)))) (by kernel_rfl) ⟨trivial, ⟨trivial, ⟨trivial, trivial⟩⟩⟩
                      · refine TS.cond (c_Kind == (5 : Int)) ?_ (fun e => by rw [c35] at e; cases e) (fun e => ?_)
                        · kernel_rfl
                        refine TS.skip ?_
                        refine XS.then ?_
                        refine TS.seq ?_
                        obtain ⟨y_13, hx37, h⟩ := bind_some' h
                        have hq : (True) ∧ ((True) ∧ ((PureC Try.prog 88 [(.st (.cons (.int .i64 (b_Slots.getD c_Slot.toNat ((0 : Int), ((0 : Int), ((List.replicate 32 (0 : Int)), (List.replicate 32 (0 : Int)))))).1) (.cons (.int .i64 (b_Slots.getD c_Slot.toNat ((0 : Int), ((0 : Int), ((List.replicate 32 (0 : Int)), (List.replicate 32 (0 : Int)))))).2.1) (.cons (.arr 32 (.int .i64) (b_Slots.getD c_Slot.toNat ((0 : Int), ((0 : Int), ((List.replicate 32 (0 : Int)), (List.replicate 32 (0 : Int)))))).2.2.1) (.arr 32 (.int .i64) (b_Slots.getD c_Slot.toNat ((0 : Int), ((0 : Int), ((List.replicate 32 (0 : Int)), (List.replicate 32 (0 : Int)))))).2.2.2))))), (.st (.cons (.int .i64 c_Kind) (.cons (.int .i64 c_Slot) (.cons (.int .i64 c_End) (.int .i64 c_Arg)))))] (.tup (.cons (.st (.cons (.int .i64 y_13.1) (.cons (.int .i64 y_13.2.1) (.cons (.arr 32 (.int .i64) y_13.2.2.1) (.arr 32 (.int .i64) y_13.2.2.2.1))))) (.cons (.int .i64 y_13.2.2.2.2) .nil))) []) ∧ ((True) ∧ ((True) ∧ ((True) ∧ ((True) ∧ ((True) ∧ ((True) ∧ (True))))))))) := ⟨trivial, ⟨trivial, ⟨F88_ok n ((b_Slots.getD c_Slot.toNat ((0 : Int), ((0 : Int), ((List.replicate 32 (0 : Int)), (List.replicate 32 (0 : Int)))))).1) ((b_Slots.getD c_Slot.toNat ((0 : Int), ((0 : Int), ((List.replicate 32 (0 : Int)), (List.replicate 32 (0 : Int)))))).2.1) ((b_Slots.getD c_Slot.toNat ((0 : Int), ((0 : Int), ((List.replicate 32 (0 : Int)), (List.replicate 32 (0 : Int)))))).2.2.1) ((b_Slots.getD c_Slot.toNat ((0 : Int), ((0 : Int), ((List.replicate 32 (0 : Int)), (List.replicate 32 (0 : Int)))))).2.2.2) c_Kind c_Slot c_End c_Arg y_13 hx37, ⟨trivial, ⟨trivial, ⟨trivial, ⟨trivial, ⟨trivial, ⟨trivial, trivial⟩⟩⟩⟩⟩⟩⟩⟩⟩
                        refine TS.reg [.none, .none, (.call (.tup (.cons (.st (.cons (.int .i64 y_13.1) (.cons (.int .i64 y_13.2.1) (.cons (.arr 32 (.int .i64) y_13.2.2.1) (.arr 32 (.int .i64) y_13.2.2.2.1))))) (.cons (.int .i64 y_13.2.2.2.2) .nil))) [])] ?_ ?_
                        · apply prop_of ?_ hq
                          kernel_rfl
                        refine XS.then ?_
                        refine TS.seq ?_
                        have hq : ((True) ∧ ((True) ∧ ((True) ∧ ((True) ∧ ((True) ∧ ((True) ∧ (True))))))) ∧ ((True) ∧ (True)) := ⟨⟨trivial, ⟨trivial, ⟨trivial, ⟨trivial, ⟨trivial, ⟨trivial, trivial⟩⟩⟩⟩⟩⟩, ⟨trivial, trivial⟩⟩
                        refine TS.draw 6 [(4, 2)] [] (by kernel_rfl) ?_ ?_
                        · apply prop_of ?_ hq
                          kernel_rfl
                        refine XS.then ?_
                        refine TS.ret ?_
                        obtain rfl : (y_13.1, y_13.2.1, y_13.2.2.1, y_13.2.2.2.1, y_13.2.2.2.2, c_Slot) = r := Option.some.inj h
                        exact XS.fin [] ((True) ∧ ((True) ∧ ((True) ∧ (True)))) (by kernel_rfl) ⟨trivial, ⟨trivial, ⟨trivial, trivial⟩⟩⟩

/-! plugtree/plugref.Done -/
def F22_j2 (n : Nat) (y_4 : Int × Int × (List Int) × (List Int) × Int × Int) : (List (Int × Int × (List Int) × List Int)) → Option ((List (Int × Int × (List Int) × List Int)) × Int × Int)
  | m0 => (some (m0, y_4.2.2.2.2.1, y_4.2.2.2.2.2))
def F22 (n : Nat) (b_Slots : List (Int × Int × (List Int) × List Int)) (c_Kind : Int) (c_Slot : Int) (c_End : Int) (c_Arg : Int) : Option ((List (Int × Int × (List Int) × List Int)) × Int × Int) := ((F65 n b_Slots c_Kind c_Slot c_End c_Arg).bind fun y_4 => (bif (y_4.2.2.2.2.1 == (1 : Int)) then (bif (decide (y_4.2.2.2.2.2 > (0 : Int))) then (bif inb y_4.2.2.2.2.2 9 then (F22_j2 n y_4 (b_Slots.set y_4.2.2.2.2.2.toNat (y_4.1, (y_4.2.1, (y_4.2.2.1, y_4.2.2.2.1))))) else none) else (F22_j2 n y_4 b_Slots)) else (some (b_Slots, y_4.2.2.2.2.1, y_4.2.2.2.2.2))))
theorem F22_ok (n : Nat) (b_Slots : List (Int × Int × (List Int) × List Int)) (c_Kind : Int) (c_Slot : Int) (c_End : Int) (c_Arg : Int) (r : (List (Int × Int × (List Int) × List Int)) × Int × Int) (h : F22 n b_Slots c_Kind c_Slot c_End c_Arg = some r) : PureC Try.prog 22 [(.st (.arr 9 (.st (.pair (.int .i64) (.pair (.int .i64) (.pair (.arr 32 (.int .i64)) (.arr 32 (.int .i64)))))) b_Slots)), (.st (.cons (.int .i64 c_Kind) (.cons (.int .i64 c_Slot) (.cons (.int .i64 c_End) (.int .i64 c_Arg)))))] (.tup (.cons (.st (.arr 9 (.st (.pair (.int .i64) (.pair (.int .i64) (.pair (.arr 32 (.int .i64)) (.arr 32 (.int .i64)))))) r.1)) (.cons (.int .i64 r.2.1) (.cons (.int .i64 r.2.2) .nil)))) [] := by
  refine PureC.mkS Try.func22 rfl rfl ?_
  intro w0 fz0 hfz
  replace h : ((F65 n b_Slots c_Kind c_Slot c_End c_Arg).bind fun y_4 => (bif (y_4.2.2.2.2.1 == (1 : Int)) then (bif (decide (y_4.2.2.2.2.2 > (0 : Int))) then (bif inb y_4.2.2.2.2.2 9 then (F22_j2 n y_4 (b_Slots.set y_4.2.2.2.2.2.toNat (y_4.1, (y_4.2.1, (y_4.2.2.1, y_4.2.2.2.1))))) else none) else (F22_j2 n y_4 b_Slots)) else (some (b_Slots, y_4.2.2.2.2.1, y_4.2.2.2.2.2)))) = some r := h
  refine TS.seq ?_
  have hq : (True) ∧ ((True) ∧ ((True) ∧ ((True) ∧ ((True) ∧ (True))))) := ⟨trivial, ⟨trivial, ⟨trivial, ⟨trivial, ⟨trivial, trivial⟩⟩⟩⟩⟩
  refine TS.reg [] ?_ ?_
  · apply prop_of ?_ hq
    kernel_rfl
  refine XS.then ?_
  refine TS.seq ?_
  obtain ⟨y_4, hx1, h⟩ := bind_some' h
  have hq : (True) ∧ ((True) ∧ ((PureC Try.prog 65 [(.st (.arr 9 (.st (.pair (.int .i64) (.pair (.int .i64) (.pair (.arr 32 (.int .i64)) (.arr 32 (.int .i64)))))) b_Slots)), (.st (.cons (.int .i64 c_Kind) (.cons (.int .i64 c_Slot) (.cons (.int .i64 c_End) (.int .i64 c_Arg)))))] (.tup (.cons (.st (.cons (.int .i64 y_4.1) (.cons (.int .i64 y_4.2.1) (.cons (.arr 32 (.int .i64) y_4.2.2.1) (.arr 32 (.int .i64) y_4.2.2.2.1))))) (.cons (.int .i64 y_4.2.2.2.2.1) (.cons (.int .i64 y_4.2.2.2.2.2) .nil)))) []) ∧ ((True) ∧ ((True) ∧ ((True) ∧ ((True) ∧ ((True) ∧ ((True) ∧ ((True) ∧ ((True) ∧ (True))))))))))) := ⟨trivial, ⟨trivial, ⟨F65_ok n b_Slots c_Kind c_Slot c_End c_Arg y_4 hx1, ⟨trivial, ⟨trivial, ⟨trivial, ⟨trivial, ⟨trivial, ⟨trivial, ⟨trivial, ⟨trivial, trivial⟩⟩⟩⟩⟩⟩⟩⟩⟩⟩⟩
  refine TS.reg [.none, .none, (.call (.tup (.cons (.st (.cons (.int .i64 y_4.1) (.cons (.int .i64 y_4.2.1) (.cons (.arr 32 (.int .i64) y_4.2.2.1) (.arr 32 (.int .i64) y_4.2.2.2.1))))) (.cons (.int .i64 y_4.2.2.2.2.1) (.cons (.int .i64 y_4.2.2.2.2.2) .nil)))) [])] ?_ ?_
  · apply prop_of ?_ hq
    kernel_rfl
  refine XS.then ?_
  refine TS.seq ?_
  refine TS.seq ?_
  rcases bif_some h with ⟨c2, h⟩ | ⟨c3, h⟩
  · have hq : (True) ∧ ((True) ∧ (((True) ∧ (y_4.2.2.2.2.1 == (1 : Int)) = true) ∧ ((True) ∧ ((True) ∧ ((True) ∧ (True)))))) := ⟨trivial, ⟨trivial, ⟨⟨trivial, c2⟩, ⟨trivial, ⟨trivial, ⟨trivial, trivial⟩⟩⟩⟩⟩⟩
    refine TS.reg [.none, .none, .dec true] ?_ ?_
    · apply prop_of ?_ hq
      kernel_rfl
    refine XS.then ?_
    refine TS.cut (D := List (Int × Int × (List Int) × List Int)) (fun d => match d with | m0 => (mkTs 30 [(2, (.ptr 0 [])), (4, (.ptr 1 [])), (8, (.int .i64 y_4.2.2.2.2.1)), (9, (.int .i64 y_4.2.2.2.2.2))], [(.box 36 (.st (.arr 9 (.st (.pair (.int .i64) (.pair (.int .i64) (.pair (.arr 32 (.int .i64)) (.arr 32 (.int .i64)))))) m0))), (.box 36 (.st (.arr 9 (.st (.pair (.int .i64) (.pair (.int .i64) (.pair (.arr 32 (.int .i64)) (.arr 32 (.int .i64)))))) (List.replicate 9 ((0 : Int), ((0 : Int), ((List.replicate 32 (0 : Int)), (List.replicate 32 (0 : Int)))))))))])) (fun d => F22_j2 n y_4 d = some r) ?_ ?_
    · rintro m0 h
      replace h : (some (m0, y_4.2.2.2.2.1, y_4.2.2.2.2.2)) = some r := h
      refine XS.then ?_
      refine TS.seq ?_
      have hq : (True) ∧ ((True) ∧ ((True) ∧ ((True) ∧ ((True) ∧ ((True) ∧ (True)))))) := ⟨trivial, ⟨trivial, ⟨trivial, ⟨trivial, ⟨trivial, ⟨trivial, trivial⟩⟩⟩⟩⟩⟩
      refine TS.reg [] ?_ ?_
      · apply prop_of ?_ hq
        kernel_rfl
      refine XS.then ?_
      refine TS.ret ?_
      obtain rfl : (m0, y_4.2.2.2.2.1, y_4.2.2.2.2.2) = r := Option.some.inj h
      exact XS.fin [] ((True) ∧ ((True) ∧ ((True) ∧ (True)))) (by kernel_rfl) ⟨trivial, ⟨trivial, ⟨trivial, trivial⟩⟩⟩
    · rcases bif_some h with ⟨c4, h⟩ | ⟨c5, h⟩
      · refine TS.cond (decide (y_4.2.2.2.2.2 > (0 : Int))) ?_ (fun e => ?_) (fun e => by rw [c4] at e; cases e)
        · kernel_rfl
        obtain ⟨t6, h⟩ := test_some h
        have hq : (True) ∧ ((True) ∧ ((True) ∧ ((inR y_4.2.2.2.2.2 9) ∧ ((y_4.2.2.2.2.2.toNat < 9 ∧ (True)) ∧ (True))))) := ⟨trivial, ⟨trivial, ⟨trivial, ⟨inb_ok t6, ⟨⟨inR_lt (inb_ok t6), trivial⟩, trivial⟩⟩⟩⟩⟩
        refine TS.reg [] ?_ ?_
        · apply prop_of ?_ hq
          kernel_rfl
        refine XS.reAny [0, 2] (mkMask 30 [2, 4, 8, 9]) (b_Slots.set y_4.2.2.2.2.2.toNat (y_4.1, (y_4.2.1, (y_4.2.2.1, y_4.2.2.2.1)))) h ?_
        kernel_rfl
      · refine TS.cond (decide (y_4.2.2.2.2.2 > (0 : Int))) ?_ (fun e => by rw [c5] at e; cases e) (fun e => ?_)
        · kernel_rfl
        refine TS.skip ?_
        refine XS.reAny [0, 2] (mkMask 30 [2, 4, 8, 9]) b_Slots h ?_
        kernel_rfl
  · have hq : (True) ∧ ((True) ∧ (((True) ∧ (y_4.2.2.2.2.1 == (1 : Int)) = false) ∧ ((True) ∧ (True)))) := ⟨trivial, ⟨trivial, ⟨⟨trivial, c3⟩, ⟨trivial, trivial⟩⟩⟩⟩
    refine TS.reg [.none, .none, .dec false] ?_ ?_
    · apply prop_of ?_ hq
      kernel_rfl
    refine XS.then ?_
    refine TS.no ?_ ?_
    · kernel_rfl
    refine TS.skip ?_
    refine XS.then ?_
    refine TS.seq ?_
    have hq : (True) ∧ ((True) ∧ ((True) ∧ ((True) ∧ ((True) ∧ ((True) ∧ (True)))))) := ⟨trivial, ⟨trivial, ⟨trivial, ⟨trivial, ⟨trivial, ⟨trivial, trivial⟩⟩⟩⟩⟩⟩
    refine TS.reg [] ?_ ?_
    · apply prop_of ?_ hq
      kernel_rfl
    refine XS.then ?_
    refine TS.ret ?_
    obtain rfl : (b_Slots, y_4.2.2.2.2.1, y_4.2.2.2.2.2) = r := Option.some.inj h
    exact XS.fin [] ((True) ∧ ((True) ∧ ((True) ∧ (True)))) (by kernel_rfl) ⟨trivial, ⟨trivial, ⟨trivial, trivial⟩⟩⟩

/-! plugtree/pluglaw.SlotsDo -/
def F5 (n : Nat) (b_Slots : List (Int × Int × (List Int) × List Int)) (c_Kind : Int) (c_Slot : Int) (c_End : Int) (c_Arg : Int) : Option Bool := ((F21 n b_Slots c_Kind c_Slot c_End c_Arg).bind fun y_2 => ((F22 n b_Slots c_Kind c_Slot c_End c_Arg).bind fun y_3 => ((F23 n b_Slots).bind fun y_4 => ((F18 n b_Slots).bind fun y_5 => (bif (y_4 == y_5) then (bif (Sh.beq (.st (.arr 9 (.st (.pair (.int .i64) (.pair (.int .i64) (.pair (.arr 32 (.int .i64)) (.arr 32 (.int .i64)))))))) y_2.1 y_3.1) then (bif (y_2.2.1 == y_3.2.1) then (some (y_2.2.2 == y_3.2.2)) else (some false)) else (some false)) else (some false))))))
theorem F5_ok (n : Nat) (b_Slots : List (Int × Int × (List Int) × List Int)) (c_Kind : Int) (c_Slot : Int) (c_End : Int) (c_Arg : Int) (r : Bool) (h : F5 n b_Slots c_Kind c_Slot c_End c_Arg = some r) : PureC Try.prog 5 [(.st (.arr 9 (.st (.pair (.int .i64) (.pair (.int .i64) (.pair (.arr 32 (.int .i64)) (.arr 32 (.int .i64)))))) b_Slots)), (.st (.cons (.int .i64 c_Kind) (.cons (.int .i64 c_Slot) (.cons (.int .i64 c_End) (.int .i64 c_Arg)))))] (.bool r) [] := by
  refine PureC.mkS Try.func5 rfl rfl ?_
  intro w0 fz0 hfz
  replace h : ((F21 n b_Slots c_Kind c_Slot c_End c_Arg).bind fun y_2 => ((F22 n b_Slots c_Kind c_Slot c_End c_Arg).bind fun y_3 => ((F23 n b_Slots).bind fun y_4 => ((F18 n b_Slots).bind fun y_5 => (bif (y_4 == y_5) then (bif (Sh.beq (.st (.arr 9 (.st (.pair (.int .i64) (.pair (.int .i64) (.pair (.arr 32 (.int .i64)) (.arr 32 (.int .i64)))))))) y_2.1 y_3.1) then (bif (y_2.2.1 == y_3.2.1) then (some (y_2.2.2 == y_3.2.2)) else (some false)) else (some false)) else (some false)))))) = some r := h
  refine TS.seq ?_
  have hq : (True) ∧ ((True) ∧ ((True) ∧ (True))) := ⟨trivial, ⟨trivial, ⟨trivial, trivial⟩⟩⟩
  refine TS.reg [] ?_ ?_
  · apply prop_of ?_ hq
    kernel_rfl
  refine XS.then ?_
  refine TS.seq ?_
  obtain ⟨y_2, hx1, h⟩ := bind_some' h
  have hq : (True) ∧ ((True) ∧ ((PureC Try.prog 21 [(.st (.arr 9 (.st (.pair (.int .i64) (.pair (.int .i64) (.pair (.arr 32 (.int .i64)) (.arr 32 (.int .i64)))))) b_Slots)), (.st (.cons (.int .i64 c_Kind) (.cons (.int .i64 c_Slot) (.cons (.int .i64 c_End) (.int .i64 c_Arg)))))] (.tup (.cons (.st (.arr 9 (.st (.pair (.int .i64) (.pair (.int .i64) (.pair (.arr 32 (.int .i64)) (.arr 32 (.int .i64)))))) y_2.1)) (.cons (.int .i64 y_2.2.1) (.cons (.int .i64 y_2.2.2) .nil)))) []) ∧ ((True) ∧ ((True) ∧ ((True) ∧ ((True) ∧ ((True) ∧ ((True) ∧ ((True) ∧ ((True) ∧ (True))))))))))) := ⟨trivial, ⟨trivial, ⟨F21_ok n b_Slots c_Kind c_Slot c_End c_Arg y_2 hx1, ⟨trivial, ⟨trivial, ⟨trivial, ⟨trivial, ⟨trivial, ⟨trivial, ⟨trivial, ⟨trivial, trivial⟩⟩⟩⟩⟩⟩⟩⟩⟩⟩⟩
  refine TS.reg [.none, .none, (.call (.tup (.cons (.st (.arr 9 (.st (.pair (.int .i64) (.pair (.int .i64) (.pair (.arr 32 (.int .i64)) (.arr 32 (.int .i64)))))) y_2.1)) (.cons (.int .i64 y_2.2.1) (.cons (.int .i64 y_2.2.2) .nil)))) [])] ?_ ?_
  · apply prop_of ?_ hq
    kernel_rfl
  refine XS.then ?_
  refine TS.seq ?_
  obtain ⟨y_3, hx2, h⟩ := bind_some' h
  have hq : (True) ∧ ((True) ∧ ((PureC Try.prog 22 [(.st (.arr 9 (.st (.pair (.int .i64) (.pair (.int .i64) (.pair (.arr 32 (.int .i64)) (.arr 32 (.int .i64)))))) b_Slots)), (.st (.cons (.int .i64 c_Kind) (.cons (.int .i64 c_Slot) (.cons (.int .i64 c_End) (.int .i64 c_Arg)))))] (.tup (.cons (.st (.arr 9 (.st (.pair (.int .i64) (.pair (.int .i64) (.pair (.arr 32 (.int .i64)) (.arr 32 (.int .i64)))))) y_3.1)) (.cons (.int .i64 y_3.2.1) (.cons (.int .i64 y_3.2.2) .nil)))) []) ∧ ((True) ∧ ((True) ∧ ((True) ∧ ((True) ∧ ((True) ∧ ((True) ∧ ((True) ∧ ((True) ∧ (True))))))))))) := ⟨trivial, ⟨trivial, ⟨F22_ok n b_Slots c_Kind c_Slot c_End c_Arg y_3 hx2, ⟨trivial, ⟨trivial, ⟨trivial, ⟨trivial, ⟨trivial, ⟨trivial, ⟨trivial, ⟨trivial, trivial⟩⟩⟩⟩⟩⟩⟩⟩⟩⟩⟩
  refine TS.reg [.none, .none, (.call (.tup (.cons (.st (.arr 9 (.st (.pair (.int .i64) (.pair (.int .i64) (.pair (.arr 32 (.int .i64)) (.arr 32 (.int .i64)))))) y_3.1)) (.cons (.int .i64 y_3.2.1) (.cons (.int .i64 y_3.2.2) .nil)))) [])] ?_ ?_
  · apply prop_of ?_ hq
    kernel_rfl
  refine XS.then ?_
  refine TS.seq ?_
  obtain ⟨y_4, hx3, h⟩ := bind_some' h
  obtain ⟨y_5, hx4, h⟩ := bind_some' h
  rcases bif_some h with ⟨c5, h⟩ | ⟨c6, h⟩
  · rcases bif_some h with ⟨c7, h⟩ | ⟨c8, h⟩
    · rcases bif_some h with ⟨c9, h⟩ | ⟨c10, h⟩
      · have hq : ((True) ∧ ((PureC Try.prog 23 [(.st (.arr 9 (.st (.pair (.int .i64) (.pair (.int .i64) (.pair (.arr 32 (.int .i64)) (.arr 32 (.int .i64)))))) b_Slots))] (.int .i64 y_4) []) ∧ ((True) ∧ ((PureC Try.prog 18 [(.st (.arr 9 (.st (.pair (.int .i64) (.pair (.int .i64) (.pair (.arr 32 (.int .i64)) (.arr 32 (.int .i64)))))) b_Slots))] (.int .i64 y_5) []) ∧ ((True) ∧ (((True) ∧ (y_4 == y_5) = true) ∧ ((True) ∧ ((True) ∧ ((True) ∧ ((True) ∧ (((True) ∧ (Sh.beq (.st (.arr 9 (.st (.pair (.int .i64) (.pair (.int .i64) (.pair (.arr 32 (.int .i64)) (.arr 32 (.int .i64)))))))) y_2.1 y_3.1) = true) ∧ ((True) ∧ ((True) ∧ ((True) ∧ ((True) ∧ (((True) ∧ (y_2.2.1 == y_3.2.1) = true) ∧ ((True) ∧ ((True) ∧ ((True) ∧ ((True) ∧ (True))))))))))))))))))))) ∧ ((True) ∧ (True)) := ⟨⟨trivial, ⟨F23_ok n b_Slots y_4 hx3, ⟨trivial, ⟨F18_ok n b_Slots y_5 hx4, ⟨trivial, ⟨⟨trivial, c5⟩, ⟨trivial, ⟨trivial, ⟨trivial, ⟨trivial, ⟨⟨trivial, c7⟩, ⟨trivial, ⟨trivial, ⟨trivial, ⟨trivial, ⟨⟨trivial, c9⟩, ⟨trivial, ⟨trivial, ⟨trivial, ⟨trivial, trivial⟩⟩⟩⟩⟩⟩⟩⟩⟩⟩⟩⟩⟩⟩⟩⟩⟩⟩⟩⟩, ⟨trivial, trivial⟩⟩
        refine TS.draw 20 [] [.none, (.call (.int .i64 y_4) []), .none, (.call (.int .i64 y_5) []), .none, .dec true, .none, .none, .none, .none, .dec true, .none, .none, .none, .none, .dec true] (by kernel_rfl) ?_ ?_
        · apply prop_of ?_ hq
          kernel_rfl
        refine XS.then ?_
        refine TS.ret ?_
        obtain rfl : (y_2.2.2 == y_3.2.2) = r := Option.some.inj h
        exact XS.fin [] ((True) ∧ (True)) (by kernel_rfl) ⟨trivial, trivial⟩
      · have hq : ((True) ∧ ((PureC Try.prog 23 [(.st (.arr 9 (.st (.pair (.int .i64) (.pair (.int .i64) (.pair (.arr 32 (.int .i64)) (.arr 32 (.int .i64)))))) b_Slots))] (.int .i64 y_4) []) ∧ ((True) ∧ ((PureC Try.prog 18 [(.st (.arr 9 (.st (.pair (.int .i64) (.pair (.int .i64) (.pair (.arr 32 (.int .i64)) (.arr 32 (.int .i64)))))) b_Slots))] (.int .i64 y_5) []) ∧ ((True) ∧ (((True) ∧ (y_4 == y_5) = true) ∧ ((True) ∧ ((True) ∧ ((True) ∧ ((True) ∧ (((True) ∧ (Sh.beq (.st (.arr 9 (.st (.pair (.int .i64) (.pair (.int .i64) (.pair (.arr 32 (.int .i64)) (.arr 32 (.int .i64)))))))) y_2.1 y_3.1) = true) ∧ ((True) ∧ ((True) ∧ ((True) ∧ ((True) ∧ (((True) ∧ (y_2.2.1 == y_3.2.1) = false) ∧ ((True) ∧ (True)))))))))))))))))) ∧ ((True) ∧ (True)) := ⟨⟨trivial, ⟨F23_ok n b_Slots y_4 hx3, ⟨trivial, ⟨F18_ok n b_Slots y_5 hx4, ⟨trivial, ⟨⟨trivial, c5⟩, ⟨trivial, ⟨trivial, ⟨trivial, ⟨trivial, ⟨⟨trivial, c7⟩, ⟨trivial, ⟨trivial, ⟨trivial, ⟨trivial, ⟨⟨trivial, c10⟩, ⟨trivial, trivial⟩⟩⟩⟩⟩⟩⟩⟩⟩⟩⟩⟩⟩⟩⟩⟩⟩, ⟨trivial, trivial⟩⟩
        refine TS.draw 20 [] [.none, (.call (.int .i64 y_4) []), .none, (.call (.int .i64 y_5) []), .none, .dec true, .none, .none, .none, .none, .dec true, .none, .none, .none, .none, .dec false] (by kernel_rfl) ?_ ?_
        · apply prop_of ?_ hq
          kernel_rfl
        refine XS.then ?_
        refine TS.ret ?_
        obtain rfl : false = r := Option.some.inj h
        exact XS.fin [] ((True) ∧ (True)) (by kernel_rfl) ⟨trivial, trivial⟩
    · have hq : ((True) ∧ ((PureC Try.prog 23 [(.st (.arr 9 (.st (.pair (.int .i64) (.pair (.int .i64) (.pair (.arr 32 (.int .i64)) (.arr 32 (.int .i64)))))) b_Slots))] (.int .i64 y_4) []) ∧ ((True) ∧ ((PureC Try.prog 18 [(.st (.arr 9 (.st (.pair (.int .i64) (.pair (.int .i64) (.pair (.arr 32 (.int .i64)) (.arr 32 (.int .i64)))))) b_Slots))] (.int .i64 y_5) []) ∧ ((True) ∧ (((True) ∧ (y_4 == y_5) = true) ∧ ((True) ∧ ((True) ∧ ((True) ∧ ((True) ∧ (((True) ∧ (Sh.beq (.st (.arr 9 (.st (.pair (.int .i64) (.pair (.int .i64) (.pair (.arr 32 (.int .i64)) (.arr 32 (.int .i64)))))))) y_2.1 y_3.1) = false) ∧ ((True) ∧ ((True) ∧ ((True) ∧ (True))))))))))))))) ∧ ((True) ∧ (True)) := ⟨⟨trivial, ⟨F23_ok n b_Slots y_4 hx3, ⟨trivial, ⟨F18_ok n b_Slots y_5 hx4, ⟨trivial, ⟨⟨trivial, c5⟩, ⟨trivial, ⟨trivial, ⟨trivial, ⟨trivial, ⟨⟨trivial, c8⟩, ⟨trivial, ⟨trivial, ⟨trivial, trivial⟩⟩⟩⟩⟩⟩⟩⟩⟩⟩⟩⟩⟩⟩, ⟨trivial, trivial⟩⟩
      refine TS.draw 20 [] [.none, (.call (.int .i64 y_4) []), .none, (.call (.int .i64 y_5) []), .none, .dec true, .none, .none, .none, .none, .dec false] (by kernel_rfl) ?_ ?_
      · apply prop_of ?_ hq
        kernel_rfl
      refine XS.then ?_
      refine TS.ret ?_
      obtain rfl : false = r := Option.some.inj h
      exact XS.fin [] ((True) ∧ (True)) (by kernel_rfl) ⟨trivial, trivial⟩
  · have hq : ((True) ∧ ((PureC Try.prog 23 [(.st (.arr 9 (.st (.pair (.int .i64) (.pair (.int .i64) (.pair (.arr 32 (.int .i64)) (.arr 32 (.int .i64)))))) b_Slots))] (.int .i64 y_4) []) ∧ ((True) ∧ ((PureC Try.prog 18 [(.st (.arr 9 (.st (.pair (.int .i64) (.pair (.int .i64) (.pair (.arr 32 (.int .i64)) (.arr 32 (.int .i64)))))) b_Slots))] (.int .i64 y_5) []) ∧ ((True) ∧ (((True) ∧ (y_4 == y_5) = false) ∧ ((True) ∧ ((True) ∧ ((True) ∧ ((True) ∧ ((True) ∧ (True)))))))))))) ∧ ((True) ∧ (True)) := ⟨⟨trivial, ⟨F23_ok n b_Slots y_4 hx3, ⟨trivial, ⟨F18_ok n b_Slots y_5 hx4, ⟨trivial, ⟨⟨trivial, c6⟩, ⟨trivial, ⟨trivial, ⟨trivial, ⟨trivial, ⟨trivial, trivial⟩⟩⟩⟩⟩⟩⟩⟩⟩⟩⟩, ⟨trivial, trivial⟩⟩
    refine TS.draw 20 [] [.none, (.call (.int .i64 y_4) []), .none, (.call (.int .i64 y_5) []), .none, .dec false] (by kernel_rfl) ?_ ?_
    · apply prop_of ?_ hq
      kernel_rfl
    refine XS.then ?_
    refine TS.ret ?_
    obtain rfl : false = r := Option.some.inj h
    exact XS.fin [] ((True) ∧ (True)) (by kernel_rfl) ⟨trivial, trivial⟩
end Go.Proofs.Ytkhfbleldchnpaa
