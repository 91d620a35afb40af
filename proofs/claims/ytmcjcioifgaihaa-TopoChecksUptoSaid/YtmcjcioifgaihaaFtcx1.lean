/- Functions of the program, as functions of values. -/
import Derived.Test.YtmcjcioifgaihaaAm27
import Derived.Test.YtmcjcioifgaihaaChecked
namespace Go.Proofs.Ytmcjcioifgaihaa
open Go Go.RowKit
set_option linter.unusedVariables false
set_option maxRecDepth 100000

/-! slices.Equal[[]int,int] -/
def F70_l2 (n : Nat) (s1 : List Int) (s2 : List Int) (k70_2 : Int → Option Bool) : Int → Option Bool
  | x => (bif (decide (x < ((s1.length : Nat) : Int))) then (bif inb x s1.length then (bif inb x s2.length then (bif ((s1.getD x.toNat (0 : Int)) != (s2.getD x.toNat (0 : Int))) then (some false) else (k70_2 (IntKind.wrap .i64 (x + (1 : Int))))) else none) else none) else (some true))
def F70 (n : Nat) (s1 : List Int) (s2 : List Int) : Option Bool := (bif (((s1.length : Nat) : Int) != ((s2.length : Nat) : Int)) then (some false) else (loopF (F70_l2 n s1 s2) n (0 : Int)))
theorem F70_ok (n : Nat) (s1 : List Int) (s2 : List Int) (r : Bool) (h : F70 n s1 s2 = some r) : PureC Try.prog 70 [(.sl (.int .i64) s1), (.sl (.int .i64) s2)] (.bool r) [] := by
  refine PureC.mkS Try.func70 rfl rfl ?_
  intro w0 fz0 hfz
  replace h : (bif (((s1.length : Nat) : Int) != ((s2.length : Nat) : Int)) then (some false) else (loopF (F70_l2 n s1 s2) n (0 : Int))) = some r := h
  refine TS.seq ?_
  have hq : (True) ∧ (True) := ⟨trivial, trivial⟩
  refine TS.reg [] ?_ ?_
  · apply prop_of ?_ hq
    kernel_rfl
  refine XS.then ?_
  refine TS.seq ?_
  refine TS.seq ?_
  have hq : (True) ∧ ((True) ∧ ((True) ∧ ((True) ∧ ((True) ∧ (True))))) := ⟨trivial, ⟨trivial, ⟨trivial, ⟨trivial, ⟨trivial, trivial⟩⟩⟩⟩⟩
  refine TS.reg [] ?_ ?_
  · apply prop_of ?_ hq
    kernel_rfl
  refine XS.then ?_
  rcases bif_some h with ⟨c1, h⟩ | ⟨c2, h⟩
  · refine TS.cond (((s1.length : Nat) : Int) != ((s2.length : Nat) : Int)) ?_ (fun hcz => ?_) (fun hcz => by rw [c1] at hcz; cases hcz)
    · kernel_rfl
    refine TS.seq ?_
    have hq : (True) ∧ (True) := ⟨trivial, trivial⟩
    refine TS.reg [] ?_ ?_
    · apply prop_of ?_ hq
      kernel_rfl
    refine XS.then ?_
    refine TS.ret ?_
    refine XS.passR ?_
    obtain rfl : false = r := Option.some.inj h
    exact XS.fin [] ((True) ∧ (True)) (by kernel_rfl) ⟨trivial, trivial⟩
  · refine TS.cond (((s1.length : Nat) : Int) != ((s2.length : Nat) : Int)) ?_ (fun hcz => by rw [c2] at hcz; cases hcz) (fun hcz => ?_)
    · kernel_rfl
    refine TS.skip ?_
    refine XS.then ?_
    refine TS.seq ?_
    refine TS.seq ?_
    have hq : (True) ∧ ((True) ∧ ((True) ∧ (True))) := ⟨trivial, ⟨trivial, ⟨trivial, trivial⟩⟩⟩
    refine TS.reg [] ?_ ?_
    · apply prop_of ?_ hq
      kernel_rfl
    refine XS.then ?_
    refine TS.block ?_
    refine TS.reLoop [] (mkMask 26 [0, 1, 12, 13]) (D := Int) (fun d => match d with | x => (mkTs 26 [(0, (.sl (.int .i64) s1)), (1, (.sl (.int .i64) s2)), (12, (.int .i64 ((s1.length : Nat) : Int))), (13, (.int .i64 x))], [])) (fun n' d => loopF (F70_l2 n s1 s2) n' d = some r) n (0 : Int) h ?_ (fun d => loopF_zero _ d r) ?_
    · kernel_rfl
    · rintro n2 x h
      replace h : (bif (decide (x < ((s1.length : Nat) : Int))) then (bif inb x s1.length then (bif inb x s2.length then (bif ((s1.getD x.toNat (0 : Int)) != (s2.getD x.toNat (0 : Int))) then (some false) else ((loopF (F70_l2 n s1 s2) n2) (IntKind.wrap .i64 (x + (1 : Int))))) else none) else none) else (some true)) = some r := h
      refine TS.seq ?_
      have hq : (True) ∧ (True) := ⟨trivial, trivial⟩
      refine TS.reg [] ?_ ?_
      · apply prop_of ?_ hq
        kernel_rfl
      refine XS.then ?_
      refine TS.seq ?_
      rcases bif_some h with ⟨c3, h⟩ | ⟨c4, h⟩
      · refine TS.cond (decide (x < ((s1.length : Nat) : Int))) ?_ (fun hcz => ?_) (fun hcz => by rw [c3] at hcz; cases hcz)
        · kernel_rfl
        refine TS.skip ?_
        refine XS.then ?_
        refine TS.seq ?_
        refine TS.block ?_
        refine TS.seq ?_
        have hq : (True) ∧ ((True) ∧ (True)) := ⟨trivial, ⟨trivial, trivial⟩⟩
        refine TS.reg [] ?_ ?_
        · apply prop_of ?_ hq
          kernel_rfl
        refine XS.then ?_
        refine TS.seq ?_
        obtain ⟨t5, h⟩ := test_some h
        obtain ⟨t6, h⟩ := test_some h
        have hq : ((True) ∧ ((True) ∧ ((inR x s1.length) ∧ ((True) ∧ ((True) ∧ ((True) ∧ ((inR x s2.length) ∧ ((True) ∧ ((True) ∧ (True)))))))))) ∧ (True) := ⟨⟨trivial, ⟨trivial, ⟨inb_ok t5, ⟨trivial, ⟨trivial, ⟨trivial, ⟨inb_ok t6, ⟨trivial, ⟨trivial, trivial⟩⟩⟩⟩⟩⟩⟩⟩⟩, trivial⟩
        refine TS.draw 9 [] [] (by kernel_rfl) ?_ ?_
        · apply prop_of ?_ hq
          kernel_rfl
        refine XS.then ?_
        rcases bif_some h with ⟨c7, h⟩ | ⟨c8, h⟩
        · refine TS.cond ((s1.getD x.toNat (0 : Int)) != (s2.getD x.toNat (0 : Int))) ?_ (fun hcz => ?_) (fun hcz => by rw [c7] at hcz; cases hcz)
          · kernel_rfl
          refine TS.seq ?_
          have hq : (True) ∧ (True) := ⟨trivial, trivial⟩
          refine TS.reg [] ?_ ?_
          · apply prop_of ?_ hq
            kernel_rfl
          refine XS.then ?_
          refine TS.ret ?_
          refine XS.blockRet ?_
          refine XS.passR ?_
          refine XS.passR ?_
          refine XS.blockRet ?_
          refine XS.passR ?_
          obtain rfl : false = r := Option.some.inj h
          exact XS.fin [] ((True) ∧ (True)) (by kernel_rfl) ⟨trivial, trivial⟩
        · refine TS.cond ((s1.getD x.toNat (0 : Int)) != (s2.getD x.toNat (0 : Int))) ?_ (fun hcz => by rw [c8] at hcz; cases hcz) (fun hcz => ?_)
          · kernel_rfl
          refine TS.skip ?_
          refine XS.blockEnd ?_
          refine XS.then ?_
          have hq : (True) ∧ ((True) ∧ (True)) := ⟨trivial, ⟨trivial, trivial⟩⟩
          refine TS.reg [] ?_ ?_
          · apply prop_of ?_ hq
            kernel_rfl
          refine XS.reAny [] (mkMask 26 [0, 1, 12, 13]) (IntKind.wrap .i64 (x + (1 : Int))) h ?_
          kernel_rfl
      · refine TS.cond (decide (x < ((s1.length : Nat) : Int))) ?_ (fun hcz => by rw [c4] at hcz; cases hcz) (fun hcz => ?_)
        · kernel_rfl
        refine TS.exit ?_
        refine XS.passE ?_
        refine XS.passE ?_
        refine XS.out ?_
        refine XS.then ?_
        refine TS.seq ?_
        have hq : (True) ∧ (True) := ⟨trivial, trivial⟩
        refine TS.reg [] ?_ ?_
        · apply prop_of ?_ hq
          kernel_rfl
        refine XS.then ?_
        refine TS.ret ?_
        obtain rfl : true = r := Option.some.inj h
        exact XS.fin [] ((True) ∧ (True)) (by kernel_rfl) ⟨trivial, trivial⟩

/-! plugtree/topo.find$1 -/
def F139 (n : Nat) (n_Path : List Int) (n_Kind : Int) (n_Ports : Int) (n_Serial : Int) (x : List Int) : Option Bool := ((F70 n n_Path x).bind fun y_2 => (some y_2))
theorem F139_ok (n : Nat) (n_Path : List Int) (n_Kind : Int) (n_Ports : Int) (n_Serial : Int) (x : List Int) (r : Bool) (h : F139 n n_Path n_Kind n_Ports n_Serial x = some r) : PureC Try.prog 139 [(.st (.cons (.sl (.int .i64) n_Path) (.cons (.int .i64 n_Kind) (.cons (.int .i64 n_Ports) (.int .i64 n_Serial))))), (.pv (.sl (.int .i64) x))] (.bool r) [] := by
  refine PureC.mkS Try.func139 rfl rfl ?_
  intro w0 fz0 hfz
  replace h : ((F70 n n_Path x).bind fun y_2 => (some y_2)) = some r := h
  refine TS.seq ?_
  have hq : (True) ∧ ((True) ∧ (True)) := ⟨trivial, ⟨trivial, trivial⟩⟩
  refine TS.reg [] ?_ ?_
  · apply prop_of ?_ hq
    kernel_rfl
  refine XS.then ?_
  refine TS.seq ?_
  obtain ⟨y_2, hx1, h⟩ := bind_some' h
  have hq : (True) ∧ ((True) ∧ ((True) ∧ ((PureC Try.prog 70 [(.sl (.int .i64) n_Path), (.sl (.int .i64) x)] (.bool y_2) []) ∧ ((True) ∧ (True))))) := ⟨trivial, ⟨trivial, ⟨trivial, ⟨F70_ok n n_Path x y_2 hx1, ⟨trivial, trivial⟩⟩⟩⟩⟩
  refine TS.reg [.none, .none, .none, (.call (.bool y_2) [])] ?_ ?_
  · apply prop_of ?_ hq
    kernel_rfl
  refine XS.then ?_
  refine TS.ret ?_
  obtain rfl : y_2 = r := Option.some.inj h
  exact XS.fin [] ((True) ∧ (True)) (by kernel_rfl) ⟨trivial, trivial⟩

/-! plugtree/topo.find -/
def F66_l4 (n : Nat) (tree : List ((List Int) × Int × Int × Int)) (path : List Int) (k66_4 : Int → Option Int) : Int → Option Int
  | x => (bif (decide (x < ((tree.length : Nat) : Int))) then (bif inb x tree.length then ((F139 n ((tree.getD x.toNat (([] : List Int), ((0 : Int), ((0 : Int), (0 : Int))))).1) ((tree.getD x.toNat (([] : List Int), ((0 : Int), ((0 : Int), (0 : Int))))).2.1) ((tree.getD x.toNat (([] : List Int), ((0 : Int), ((0 : Int), (0 : Int))))).2.2.1) ((tree.getD x.toNat (([] : List Int), ((0 : Int), ((0 : Int), (0 : Int))))).2.2.2) path).bind fun y_2 => (bif y_2 then (some x) else (k66_4 (IntKind.wrap .i64 (x + (1 : Int)))))) else none) else (some (-1 : Int)))
def F66 (n : Nat) (tree : List ((List Int) × Int × Int × Int)) (path : List Int) : Option Int := (loopF (F66_l4 n tree path) n (0 : Int))
theorem F66_ok (n : Nat) (tree : List ((List Int) × Int × Int × Int)) (path : List Int) (r : Int) (h : F66 n tree path = some r) : PureC Try.prog 66 [(.sl (.st (.pair (.sl (.int .i64)) (.pair (.int .i64) (.pair (.int .i64) (.int .i64))))) tree), (.sl (.int .i64) path)] (.int .i64 r) [] := by
  refine PureC.mkS Try.func66 rfl rfl ?_
  intro w0 fz0 hfz
  replace h : (loopF (F66_l4 n tree path) n (0 : Int)) = some r := h
  refine TS.seq ?_
  have hq : (True) ∧ ((True) ∧ (True)) := ⟨trivial, ⟨trivial, trivial⟩⟩
  refine TS.reg [] ?_ ?_
  · apply prop_of ?_ hq
    kernel_rfl
  refine XS.then ?_
  refine TS.seq ?_
  refine TS.opsOf ?_
  have hq : (True) ∧ ((True) ∧ (True)) := ⟨trivial, ⟨trivial, trivial⟩⟩
  refine TOS.run 2 [] (by kernel_rfl) ?_ ?_
  · apply prop_of ?_ hq
    kernel_rfl
  refine TOS.call 68 (mkMask 8 [4]) Try.func68 rfl ?_
  intro fv2
  refine ⟨(mkTs 19 [(0, (.sl (.st (.pair (.sl (.int .i64)) (.pair (.int .i64) (.pair (.int .i64) (.int .i64))))) tree)), (1, (.fn 139 (.cons (.ptr 0 []) .nil)))], [(.box 43 (.sl (.int .i64) path)), (.sav (mkTs 8 [(4, (.int .i64 (0 : Int)))]) fv2)]), by kernel_rfl, ?_⟩
  refine TS.seq ?_
  have hq : (True) ∧ (True) := ⟨trivial, trivial⟩
  refine TS.reg [] ?_ ?_
  · apply prop_of ?_ hq
    kernel_rfl
  refine XS.then ?_
  refine TS.seq ?_
  refine TS.seq ?_
  have hq : (True) ∧ ((True) ∧ ((True) ∧ (True))) := ⟨trivial, ⟨trivial, ⟨trivial, trivial⟩⟩⟩
  refine TS.reg [] ?_ ?_
  · apply prop_of ?_ hq
    kernel_rfl
  refine XS.then ?_
  refine TS.block ?_
  refine TS.reLoop [1, 0] (mkMask 19 [0, 1, 7, 8]) (D := Int) (fun d => match d with | x => (mkTs 19 [(0, (.sl (.st (.pair (.sl (.int .i64)) (.pair (.int .i64) (.pair (.int .i64) (.int .i64))))) tree)), (1, (.fn 139 (.cons (.ptr 1 []) .nil))), (7, (.int .i64 ((tree.length : Nat) : Int))), (8, (.int .i64 x))], [(.sav (mkTs 8 [(4, (.int .i64 (0 : Int)))]) fv2), (.box 43 (.sl (.int .i64) path))])) (fun n' d => loopF (F66_l4 n tree path) n' d = some r) n (0 : Int) h ?_ (fun d => loopF_zero _ d r) ?_
  · kernel_rfl
  · rintro n4 x h
    replace h : (bif (decide (x < ((tree.length : Nat) : Int))) then (bif inb x tree.length then ((F139 n ((tree.getD x.toNat (([] : List Int), ((0 : Int), ((0 : Int), (0 : Int))))).1) ((tree.getD x.toNat (([] : List Int), ((0 : Int), ((0 : Int), (0 : Int))))).2.1) ((tree.getD x.toNat (([] : List Int), ((0 : Int), ((0 : Int), (0 : Int))))).2.2.1) ((tree.getD x.toNat (([] : List Int), ((0 : Int), ((0 : Int), (0 : Int))))).2.2.2) path).bind fun y_2 => (bif y_2 then (some x) else ((loopF (F66_l4 n tree path) n4) (IntKind.wrap .i64 (x + (1 : Int)))))) else none) else (some (-1 : Int))) = some r := h
    refine TS.seq ?_
    have hq : (True) ∧ (True) := ⟨trivial, trivial⟩
    refine TS.reg [] ?_ ?_
    · apply prop_of ?_ hq
      kernel_rfl
    refine XS.then ?_
    refine TS.seq ?_
    rcases bif_some h with ⟨c1, h⟩ | ⟨c2, h⟩
    · refine TS.cond (decide (x < ((tree.length : Nat) : Int))) ?_ (fun hcz => ?_) (fun hcz => by rw [c1] at hcz; cases hcz)
      · kernel_rfl
      refine TS.skip ?_
      refine XS.then ?_
      refine TS.seq ?_
      refine TS.block ?_
      refine TS.seq ?_
      have hq : (True) ∧ ((True) ∧ (True)) := ⟨trivial, ⟨trivial, trivial⟩⟩
      refine TS.reg [] ?_ ?_
      · apply prop_of ?_ hq
        kernel_rfl
      refine XS.then ?_
      refine TS.seq ?_
      obtain ⟨t3, h⟩ := test_some h
      obtain ⟨y_2, hx4, h⟩ := bind_some' h
      have hq : (True) ∧ ((True) ∧ ((True) ∧ ((inR x tree.length) ∧ ((True) ∧ (((((True) ∧ ((True) ∧ ((True) ∧ (True)))) ∧ ((True) ∧ (True))) ∧ PureC Try.prog 139 [(.st (.cons (.sl (.int .i64) (tree.getD x.toNat (([] : List Int), ((0 : Int), ((0 : Int), (0 : Int))))).1) (.cons (.int .i64 (tree.getD x.toNat (([] : List Int), ((0 : Int), ((0 : Int), (0 : Int))))).2.1) (.cons (.int .i64 (tree.getD x.toNat (([] : List Int), ((0 : Int), ((0 : Int), (0 : Int))))).2.2.1) (.int .i64 (tree.getD x.toNat (([] : List Int), ((0 : Int), ((0 : Int), (0 : Int))))).2.2.2))))), (.pv (.sl (.int .i64) path))] (.bool y_2) []) ∧ (True)))))) := ⟨trivial, ⟨trivial, ⟨trivial, ⟨inb_ok t3, ⟨trivial, ⟨⟨⟨⟨trivial, ⟨trivial, ⟨trivial, trivial⟩⟩⟩, ⟨trivial, trivial⟩⟩, F139_ok n ((tree.getD x.toNat (([] : List Int), ((0 : Int), ((0 : Int), (0 : Int))))).1) ((tree.getD x.toNat (([] : List Int), ((0 : Int), ((0 : Int), (0 : Int))))).2.1) ((tree.getD x.toNat (([] : List Int), ((0 : Int), ((0 : Int), (0 : Int))))).2.2.1) ((tree.getD x.toNat (([] : List Int), ((0 : Int), ((0 : Int), (0 : Int))))).2.2.2) path y_2 hx4⟩, trivial⟩⟩⟩⟩⟩⟩
      refine TS.reg [.none, .none, .none, .none, .none, (.call (.bool y_2) [])] ?_ ?_
      · apply prop_of ?_ hq
        kernel_rfl
      refine XS.then ?_
      rcases bif_some h with ⟨c5, h⟩ | ⟨c6, h⟩
      · refine TS.cond y_2 ?_ (fun hcz => ?_) (fun hcz => by rw [c5] at hcz; cases hcz)
        · kernel_rfl
        refine TS.seq ?_
        have hq : (True) ∧ ((True) ∧ (True)) := ⟨trivial, ⟨trivial, trivial⟩⟩
        refine TS.reg [] ?_ ?_
        · apply prop_of ?_ hq
          kernel_rfl
        refine XS.then ?_
        refine TS.ret ?_
        refine XS.blockRet ?_
        refine XS.passR ?_
        refine XS.passR ?_
        refine XS.blockRet ?_
        refine XS.passR ?_
        refine XS.backR 0 (mkTs 8 [(4, (.int .i64 (0 : Int)))]) (mkTs 8 [(4, (.int .i64 (0 : Int))), (7, (.int .i64 x))], [.dead, (.box 43 (.sl (.int .i64) path))]) ((True) ∧ (True)) (by kernel_rfl) (by kernel_rfl) ⟨trivial, trivial⟩ ?_
        refine KS.opsOf ?_
        have hq : (True) ∧ (True) := ⟨trivial, trivial⟩
        refine TOS.run 1 [] (by kernel_rfl) ?_ ?_
        · apply prop_of ?_ hq
          kernel_rfl
        refine TOS.nil (by kernel_rfl) ?_
        refine XS.then ?_
        refine TS.ret ?_
        obtain rfl : x = r := Option.some.inj h
        exact XS.fin [] ((True) ∧ (True)) (by kernel_rfl) ⟨trivial, trivial⟩
      · refine TS.cond y_2 ?_ (fun hcz => by rw [c6] at hcz; cases hcz) (fun hcz => ?_)
        · kernel_rfl
        refine TS.skip ?_
        refine XS.blockEnd ?_
        refine XS.then ?_
        have hq : (True) ∧ ((True) ∧ (True)) := ⟨trivial, ⟨trivial, trivial⟩⟩
        refine TS.reg [] ?_ ?_
        · apply prop_of ?_ hq
          kernel_rfl
        refine XS.reAny [0, 1] (mkMask 19 [0, 1, 7, 8]) (IntKind.wrap .i64 (x + (1 : Int))) h ?_
        kernel_rfl
    · refine TS.cond (decide (x < ((tree.length : Nat) : Int))) ?_ (fun hcz => by rw [c2] at hcz; cases hcz) (fun hcz => ?_)
      · kernel_rfl
      refine TS.exit ?_
      refine XS.passE ?_
      refine XS.passE ?_
      refine XS.out ?_
      refine XS.then ?_
      refine TS.seq ?_
      have hq : (True) ∧ (True) := ⟨trivial, trivial⟩
      refine TS.reg [] ?_ ?_
      · apply prop_of ?_ hq
        kernel_rfl
      refine XS.then ?_
      refine TS.ret ?_
      refine XS.backR 0 (mkTs 8 [(4, (.int .i64 (0 : Int)))]) (mkTs 8 [(4, (.int .i64 (0 : Int))), (7, (.int .i64 (-1 : Int)))], [.dead, (.box 43 (.sl (.int .i64) path))]) ((True) ∧ (True)) (by kernel_rfl) (by kernel_rfl) ⟨trivial, trivial⟩ ?_
      refine KS.opsOf ?_
      have hq : (True) ∧ (True) := ⟨trivial, trivial⟩
      refine TOS.run 1 [] (by kernel_rfl) ?_ ?_
      · apply prop_of ?_ hq
        kernel_rfl
      refine TOS.nil (by kernel_rfl) ?_
      refine XS.then ?_
      refine TS.ret ?_
      obtain rfl : (-1 : Int) = r := Option.some.inj h
      exact XS.fin [] ((True) ∧ (True)) (by kernel_rfl) ⟨trivial, trivial⟩

/-! slices.Clone[[]int,int] -/
def F140 (n : Nat) (s : List Int) : Option (List Int) := (bif (decide (([] : List Int).length + s.length ≤ 17592186044416)) then (some (([] : List Int) ++ s)) else none)
theorem F140_ok (n : Nat) (s : List Int) (r : List Int) (h : F140 n s = some r) : PureC Try.prog 140 [(.sl (.int .i64) s)] (.row 0) [(.row 3 (.int .i64) r)] := by
  refine PureC.mkS Try.func140 rfl rfl ?_
  intro w0 fz0 hfz
  replace h : (bif (decide (([] : List Int).length + s.length ≤ 17592186044416)) then (some (([] : List Int) ++ s)) else none) = some r := h
  refine TS.seq ?_
  have hq : (True) ∧ (True) := ⟨trivial, trivial⟩
  refine TS.reg [] ?_ ?_
  · apply prop_of ?_ hq
    kernel_rfl
  refine XS.then ?_
  refine TS.seq ?_
  refine TS.seq ?_
  have hq : (True) ∧ (True) := ⟨trivial, trivial⟩
  refine TS.nilReg 1 [] (.int .i64) s ?_ (by kernel_rfl) ?_
  · apply prop_of ?_ hq
    kernel_rfl
  · intro b2 hb4
    cases b2
    · clear hb4
      refine XS.then ?_
      refine TS.no ?_ ?_
      · kernel_rfl
      refine TS.skip ?_
      refine XS.then ?_
      refine TS.seq ?_
      obtain ⟨t1, h⟩ := test_some h
      have hq : (True) ∧ ((True) ∧ ((([] : List Int).length + s.length ≤ 17592186044416) ∧ ((True) ∧ (True)))) := ⟨trivial, ⟨trivial, ⟨of_decide_eq_true t1, ⟨trivial, trivial⟩⟩⟩⟩
      refine TS.reg [] ?_ ?_
      · apply prop_of ?_ hq
        kernel_rfl
      refine XS.then ?_
      refine TS.ret ?_
      obtain rfl : (([] : List Int) ++ s) = r := Option.some.inj h
      exact XS.fin [1] ((True) ∧ (True)) (by kernel_rfl) ⟨trivial, trivial⟩
    · have e3 := hb4 rfl
      replace h : (some ([] : List Int)) = some r := by first | exact h | (rw [e3] at h ⊢; exact h) | simpa [e3] using h
      refine XS.then ?_
      refine TS.yes ?_ ?_
      · kernel_rfl
      refine TS.seq ?_
      have hq : (True) ∧ (True) := ⟨trivial, trivial⟩
      refine TS.reg [] ?_ ?_
      · apply prop_of ?_ hq
        kernel_rfl
      refine XS.then ?_
      refine TS.ret ?_
      refine XS.passR ?_
      obtain rfl : ([] : List Int) = r := Option.some.inj h
      refine XS.wk (.row false 2 [] 3 (.int .i64)) ?_
      exact XS.fin [0] ((True) ∧ (True)) (by kernel_rfl) ⟨trivial, trivial⟩

/-! plugtree/topo.copied -/
def F67 (n : Nat) (n_Path : List Int) (n_Kind : Int) (n_Ports : Int) (n_Serial : Int) : Option (Int × Int × Int × (List Int)) := ((F140 n n_Path).bind fun y_5 => (some (n_Kind, n_Ports, n_Serial, y_5)))
theorem F67_ok (n : Nat) (n_Path : List Int) (n_Kind : Int) (n_Ports : Int) (n_Serial : Int) (r : Int × Int × Int × (List Int)) (h : F67 n n_Path n_Kind n_Ports n_Serial = some r) : PureC Try.prog 67 [(.st (.cons (.sl (.int .i64) n_Path) (.cons (.int .i64 n_Kind) (.cons (.int .i64 n_Ports) (.int .i64 n_Serial)))))] (.st (.cons (.row 0) (.cons (.int .i64 r.1) (.cons (.int .i64 r.2.1) (.int .i64 r.2.2.1))))) [(.row 3 (.int .i64) r.2.2.2)] := by
  refine PureC.mkS Try.func67 rfl rfl ?_
  intro w0 fz0 hfz
  replace h : ((F140 n n_Path).bind fun y_5 => (some (n_Kind, n_Ports, n_Serial, y_5))) = some r := h
  refine TS.seq ?_
  have hq : (True) ∧ ((True) ∧ (True)) := ⟨trivial, ⟨trivial, trivial⟩⟩
  refine TS.reg [] ?_ ?_
  · apply prop_of ?_ hq
    kernel_rfl
  refine XS.then ?_
  refine TS.seq ?_
  obtain ⟨y_5, hx1, h⟩ := bind_some' h
  have hq : (True) ∧ ((True) ∧ ((PureC Try.prog 140 [(.sl (.int .i64) n_Path)] (.row 0) [(.row 3 (.int .i64) y_5)]) ∧ ((True) ∧ ((True) ∧ (True))))) := ⟨trivial, ⟨trivial, ⟨F140_ok n n_Path y_5 hx1, ⟨trivial, ⟨trivial, trivial⟩⟩⟩⟩⟩
  refine TS.reg [.none, .none, (.call (.row 0) [(.row 3 (.int .i64) y_5)])] ?_ ?_
  · apply prop_of ?_ hq
    kernel_rfl
  refine XS.then ?_
  refine TS.seq ?_
  have hq : (True) ∧ ((True) ∧ (True)) := ⟨trivial, ⟨trivial, trivial⟩⟩
  refine TS.reg [] ?_ ?_
  · apply prop_of ?_ hq
    kernel_rfl
  refine XS.then ?_
  refine TS.ret ?_
  obtain rfl : (n_Kind, n_Ports, n_Serial, y_5) = r := Option.some.inj h
  exact XS.fin [2] ((True) ∧ (True)) (by kernel_rfl) ⟨trivial, trivial⟩

/-! plugtree/topo.Find -/
def F22 (n : Nat) (tree : List ((List Int) × Int × Int × Int)) (path : List Int) : Option (Int × Int × Int × Bool × (List Int)) := ((F66 n tree path).bind fun y_6 => (bif (decide (y_6 < (0 : Int))) then (some ((0 : Int), (0 : Int), (0 : Int), false, ([] : List Int))) else (bif inb y_6 tree.length then ((F67 n ((tree.getD y_6.toNat (([] : List Int), ((0 : Int), ((0 : Int), (0 : Int))))).1) ((tree.getD y_6.toNat (([] : List Int), ((0 : Int), ((0 : Int), (0 : Int))))).2.1) ((tree.getD y_6.toNat (([] : List Int), ((0 : Int), ((0 : Int), (0 : Int))))).2.2.1) ((tree.getD y_6.toNat (([] : List Int), ((0 : Int), ((0 : Int), (0 : Int))))).2.2.2)).bind fun y_7 => (some (y_7.1, y_7.2.1, y_7.2.2.1, true, y_7.2.2.2))) else none)))
theorem F22_ok (n : Nat) (tree : List ((List Int) × Int × Int × Int)) (path : List Int) (r : Int × Int × Int × Bool × (List Int)) (h : F22 n tree path = some r) : PureC Try.prog 22 [(.sl (.st (.pair (.sl (.int .i64)) (.pair (.int .i64) (.pair (.int .i64) (.int .i64))))) tree), (.sl (.int .i64) path)] (.tup (.cons (.st (.cons (.row 0) (.cons (.int .i64 r.1) (.cons (.int .i64 r.2.1) (.int .i64 r.2.2.1))))) (.cons (.bool r.2.2.2.1) .nil))) [(.row 3 (.int .i64) r.2.2.2.2)] := by
  refine PureC.mkS Try.func22 rfl rfl ?_
  intro w0 fz0 hfz
  replace h : ((F66 n tree path).bind fun y_6 => (bif (decide (y_6 < (0 : Int))) then (some ((0 : Int), (0 : Int), (0 : Int), false, ([] : List Int))) else (bif inb y_6 tree.length then ((F67 n ((tree.getD y_6.toNat (([] : List Int), ((0 : Int), ((0 : Int), (0 : Int))))).1) ((tree.getD y_6.toNat (([] : List Int), ((0 : Int), ((0 : Int), (0 : Int))))).2.1) ((tree.getD y_6.toNat (([] : List Int), ((0 : Int), ((0 : Int), (0 : Int))))).2.2.1) ((tree.getD y_6.toNat (([] : List Int), ((0 : Int), ((0 : Int), (0 : Int))))).2.2.2)).bind fun y_7 => (some (y_7.1, y_7.2.1, y_7.2.2.1, true, y_7.2.2.2))) else none))) = some r := h
  refine TS.seq ?_
  have hq : (True) ∧ ((True) ∧ (True)) := ⟨trivial, ⟨trivial, trivial⟩⟩
  refine TS.reg [] ?_ ?_
  · apply prop_of ?_ hq
    kernel_rfl
  refine XS.then ?_
  refine TS.seq ?_
  obtain ⟨y_6, hx1, h⟩ := bind_some' h
  have hq : (True) ∧ ((True) ∧ ((PureC Try.prog 66 [(.sl (.st (.pair (.sl (.int .i64)) (.pair (.int .i64) (.pair (.int .i64) (.int .i64))))) tree), (.sl (.int .i64) path)] (.int .i64 y_6) []) ∧ ((True) ∧ (True)))) := ⟨trivial, ⟨trivial, ⟨F66_ok n tree path y_6 hx1, ⟨trivial, trivial⟩⟩⟩⟩
  refine TS.reg [.none, .none, (.call (.int .i64 y_6) [])] ?_ ?_
  · apply prop_of ?_ hq
    kernel_rfl
  refine XS.then ?_
  refine TS.seq ?_
  refine TS.seq ?_
  have hq : (True) ∧ ((True) ∧ (True)) := ⟨trivial, ⟨trivial, trivial⟩⟩
  refine TS.reg [] ?_ ?_
  · apply prop_of ?_ hq
    kernel_rfl
  refine XS.then ?_
  rcases bif_some h with ⟨c2, h⟩ | ⟨c3, h⟩
  · refine TS.cond (decide (y_6 < (0 : Int))) ?_ (fun hcz => ?_) (fun hcz => by rw [c2] at hcz; cases hcz)
    · kernel_rfl
    refine TS.seq ?_
    have hq : (True) ∧ ((True) ∧ ((True) ∧ (True))) := ⟨trivial, ⟨trivial, ⟨trivial, trivial⟩⟩⟩
    refine TS.reg [] ?_ ?_
    · apply prop_of ?_ hq
      kernel_rfl
    refine XS.then ?_
    refine TS.ret ?_
    refine XS.passR ?_
    obtain rfl : ((0 : Int), (0 : Int), (0 : Int), false, ([] : List Int)) = r := Option.some.inj h
    refine XS.wk (.row true 0 [false] 3 (.int .i64)) ?_
    exact XS.fin [1] ((True) ∧ ((True) ∧ (True))) (by kernel_rfl) ⟨trivial, ⟨trivial, trivial⟩⟩
  · refine TS.cond (decide (y_6 < (0 : Int))) ?_ (fun hcz => by rw [c3] at hcz; cases hcz) (fun hcz => ?_)
    · kernel_rfl
    refine TS.skip ?_
    refine XS.then ?_
    refine TS.seq ?_
    obtain ⟨t4, h⟩ := test_some h
    obtain ⟨y_7, hx5, h⟩ := bind_some' h
    have hq : (True) ∧ ((True) ∧ ((inR y_6 tree.length) ∧ ((True) ∧ ((PureC Try.prog 67 [(.st (.cons (.sl (.int .i64) (tree.getD y_6.toNat (([] : List Int), ((0 : Int), ((0 : Int), (0 : Int))))).1) (.cons (.int .i64 (tree.getD y_6.toNat (([] : List Int), ((0 : Int), ((0 : Int), (0 : Int))))).2.1) (.cons (.int .i64 (tree.getD y_6.toNat (([] : List Int), ((0 : Int), ((0 : Int), (0 : Int))))).2.2.1) (.int .i64 (tree.getD y_6.toNat (([] : List Int), ((0 : Int), ((0 : Int), (0 : Int))))).2.2.2)))))] (.st (.cons (.row 0) (.cons (.int .i64 y_7.1) (.cons (.int .i64 y_7.2.1) (.int .i64 y_7.2.2.1))))) [(.row 3 (.int .i64) y_7.2.2.2)]) ∧ ((True) ∧ ((True) ∧ (True))))))) := ⟨trivial, ⟨trivial, ⟨inb_ok t4, ⟨trivial, ⟨F67_ok n ((tree.getD y_6.toNat (([] : List Int), ((0 : Int), ((0 : Int), (0 : Int))))).1) ((tree.getD y_6.toNat (([] : List Int), ((0 : Int), ((0 : Int), (0 : Int))))).2.1) ((tree.getD y_6.toNat (([] : List Int), ((0 : Int), ((0 : Int), (0 : Int))))).2.2.1) ((tree.getD y_6.toNat (([] : List Int), ((0 : Int), ((0 : Int), (0 : Int))))).2.2.2) y_7 hx5, ⟨trivial, ⟨trivial, trivial⟩⟩⟩⟩⟩⟩⟩
    refine TS.reg [.none, .none, .none, .none, (.call (.st (.cons (.row 0) (.cons (.int .i64 y_7.1) (.cons (.int .i64 y_7.2.1) (.int .i64 y_7.2.2.1))))) [(.row 3 (.int .i64) y_7.2.2.2)])] ?_ ?_
    · apply prop_of ?_ hq
      kernel_rfl
    refine XS.then ?_
    refine TS.ret ?_
    obtain rfl : (y_7.1, y_7.2.1, y_7.2.2.1, true, y_7.2.2.2) = r := Option.some.inj h
    exact XS.fin [1] ((True) ∧ ((True) ∧ (True))) (by kernel_rfl) ⟨trivial, ⟨trivial, trivial⟩⟩

/-! plugtree/plugref.FindNode$1 -/
def F69 (n : Nat) (n_Path : List Int) (n_Kind : Int) (n_Ports : Int) (n_Serial : Int) (x : List Int) : Option Bool := ((F70 n n_Path x).bind fun y_2 => (some y_2))
theorem F69_ok (n : Nat) (n_Path : List Int) (n_Kind : Int) (n_Ports : Int) (n_Serial : Int) (x : List Int) (r : Bool) (h : F69 n n_Path n_Kind n_Ports n_Serial x = some r) : PureC Try.prog 69 [(.st (.cons (.sl (.int .i64) n_Path) (.cons (.int .i64 n_Kind) (.cons (.int .i64 n_Ports) (.int .i64 n_Serial))))), (.pv (.sl (.int .i64) x))] (.bool r) [] := by
  refine PureC.mkS Try.func69 rfl rfl ?_
  intro w0 fz0 hfz
  replace h : ((F70 n n_Path x).bind fun y_2 => (some y_2)) = some r := h
  refine TS.seq ?_
  have hq : (True) ∧ ((True) ∧ (True)) := ⟨trivial, ⟨trivial, trivial⟩⟩
  refine TS.reg [] ?_ ?_
  · apply prop_of ?_ hq
    kernel_rfl
  refine XS.then ?_
  refine TS.seq ?_
  obtain ⟨y_2, hx1, h⟩ := bind_some' h
  have hq : (True) ∧ ((True) ∧ ((True) ∧ ((PureC Try.prog 70 [(.sl (.int .i64) n_Path), (.sl (.int .i64) x)] (.bool y_2) []) ∧ ((True) ∧ (True))))) := ⟨trivial, ⟨trivial, ⟨trivial, ⟨F70_ok n n_Path x y_2 hx1, ⟨trivial, trivial⟩⟩⟩⟩⟩
  refine TS.reg [.none, .none, .none, (.call (.bool y_2) [])] ?_ ?_
  · apply prop_of ?_ hq
    kernel_rfl
  refine XS.then ?_
  refine TS.ret ?_
  obtain rfl : y_2 = r := Option.some.inj h
  exact XS.fin [] ((True) ∧ (True)) (by kernel_rfl) ⟨trivial, trivial⟩

/-! plugtree/plugref.FindNode -/
def F23_j5 (n : Nat) (tree : List ((List Int) × Int × Int × Int)) : Int → Option ((List Int) × Int × Int × Int × Bool)
  | x => (bif (decide (x < (0 : Int))) then (some (([] : List Int), (0 : Int), (0 : Int), (0 : Int), false)) else (bif inb x tree.length then (some ((tree.getD x.toNat (([] : List Int), ((0 : Int), ((0 : Int), (0 : Int))))).1, (tree.getD x.toNat (([] : List Int), ((0 : Int), ((0 : Int), (0 : Int))))).2.1, (tree.getD x.toNat (([] : List Int), ((0 : Int), ((0 : Int), (0 : Int))))).2.2.1, (tree.getD x.toNat (([] : List Int), ((0 : Int), ((0 : Int), (0 : Int))))).2.2.2, true)) else none))
def F23_l6 (n : Nat) (tree : List ((List Int) × Int × Int × Int)) (path : List Int) (k23_6 : Int → Option ((List Int) × Int × Int × Int × Bool)) : Int → Option ((List Int) × Int × Int × Int × Bool)
  | x_2 => (bif (decide (x_2 < ((tree.length : Nat) : Int))) then (bif inb x_2 tree.length then ((F69 n ((tree.getD x_2.toNat (([] : List Int), ((0 : Int), ((0 : Int), (0 : Int))))).1) ((tree.getD x_2.toNat (([] : List Int), ((0 : Int), ((0 : Int), (0 : Int))))).2.1) ((tree.getD x_2.toNat (([] : List Int), ((0 : Int), ((0 : Int), (0 : Int))))).2.2.1) ((tree.getD x_2.toNat (([] : List Int), ((0 : Int), ((0 : Int), (0 : Int))))).2.2.2) path).bind fun y_6 => (bif y_6 then (F23_j5 n tree x_2) else (k23_6 (IntKind.wrap .i64 (x_2 + (1 : Int)))))) else none) else (F23_j5 n tree (-1 : Int)))
def F23 (n : Nat) (tree : List ((List Int) × Int × Int × Int)) (path : List Int) : Option ((List Int) × Int × Int × Int × Bool) := (loopF (F23_l6 n tree path) n (0 : Int))
theorem F23_ok (n : Nat) (tree : List ((List Int) × Int × Int × Int)) (path : List Int) (r : (List Int) × Int × Int × Int × Bool) (h : F23 n tree path = some r) : PureC Try.prog 23 [(.sl (.st (.pair (.sl (.int .i64)) (.pair (.int .i64) (.pair (.int .i64) (.int .i64))))) tree), (.sl (.int .i64) path)] (.tup (.cons (.st (.cons (.sl (.int .i64) r.1) (.cons (.int .i64 r.2.1) (.cons (.int .i64 r.2.2.1) (.int .i64 r.2.2.2.1))))) (.cons (.bool r.2.2.2.2) .nil))) [] := by
  refine PureC.mkS Try.func23 rfl rfl ?_
  intro w0 fz0 hfz
  replace h : (loopF (F23_l6 n tree path) n (0 : Int)) = some r := h
  refine TS.seq ?_
  have hq : (True) ∧ ((True) ∧ ((True) ∧ (True))) := ⟨trivial, ⟨trivial, ⟨trivial, trivial⟩⟩⟩
  refine TS.reg [] ?_ ?_
  · apply prop_of ?_ hq
    kernel_rfl
  refine XS.then ?_
  refine TS.seq ?_
  refine TS.opsOf ?_
  have hq : (True) ∧ ((True) ∧ (True)) := ⟨trivial, ⟨trivial, trivial⟩⟩
  refine TOS.run 2 [] (by kernel_rfl) ?_ ?_
  · apply prop_of ?_ hq
    kernel_rfl
  refine TOS.callJ (D := Int) (fun d => match d with | x => (mkTs 17 [(0, (.sl (.st (.pair (.sl (.int .i64)) (.pair (.int .i64) (.pair (.int .i64) (.int .i64))))) tree)), (4, (.ptr 0 [])), (9, (.int .i64 x))], [(.box 45 (.st (.cons .nilS (.cons (.int .i64 (0 : Int)) (.cons (.int .i64 (0 : Int)) (.int .i64 (0 : Int)))))))])) (fun d => F23_j5 n tree d = some r) 68 (mkMask 17 [0, 4]) Try.func68 rfl ?_ ?_
  · rintro x h
    replace h : (bif (decide (x < (0 : Int))) then (some (([] : List Int), (0 : Int), (0 : Int), (0 : Int), false)) else (bif inb x tree.length then (some ((tree.getD x.toNat (([] : List Int), ((0 : Int), ((0 : Int), (0 : Int))))).1, (tree.getD x.toNat (([] : List Int), ((0 : Int), ((0 : Int), (0 : Int))))).2.1, (tree.getD x.toNat (([] : List Int), ((0 : Int), ((0 : Int), (0 : Int))))).2.2.1, (tree.getD x.toNat (([] : List Int), ((0 : Int), ((0 : Int), (0 : Int))))).2.2.2, true)) else none)) = some r := h
    have hq : (True) ∧ (True) := ⟨trivial, trivial⟩
    refine TOS.run 1 [] (by kernel_rfl) ?_ ?_
    · apply prop_of ?_ hq
      kernel_rfl
    refine TOS.nil (by kernel_rfl) ?_
    refine XS.then ?_
    refine TS.seq ?_
    refine TS.seq ?_
    have hq : (True) ∧ ((True) ∧ (True)) := ⟨trivial, ⟨trivial, trivial⟩⟩
    refine TS.reg [] ?_ ?_
    · apply prop_of ?_ hq
      kernel_rfl
    refine XS.then ?_
    rcases bif_some h with ⟨c1, h⟩ | ⟨c2, h⟩
    · refine TS.cond (decide (x < (0 : Int))) ?_ (fun hcz => ?_) (fun hcz => by rw [c1] at hcz; cases hcz)
      · kernel_rfl
      refine TS.seq ?_
      have hq : (True) ∧ ((True) ∧ ((True) ∧ (True))) := ⟨trivial, ⟨trivial, ⟨trivial, trivial⟩⟩⟩
      refine TS.reg [] ?_ ?_
      · apply prop_of ?_ hq
        kernel_rfl
      refine XS.then ?_
      refine TS.ret ?_
      refine XS.passR ?_
      obtain rfl : (([] : List Int), (0 : Int), (0 : Int), (0 : Int), false) = r := Option.some.inj h
      refine XS.wk (.view true 0 [false] (.int .i64)) ?_
      exact XS.fin [] ((True) ∧ ((True) ∧ (True))) (by kernel_rfl) ⟨trivial, ⟨trivial, trivial⟩⟩
    · refine TS.cond (decide (x < (0 : Int))) ?_ (fun hcz => by rw [c2] at hcz; cases hcz) (fun hcz => ?_)
      · kernel_rfl
      refine TS.skip ?_
      refine XS.then ?_
      refine TS.seq ?_
      obtain ⟨t3, h⟩ := test_some h
      have hq : (True) ∧ ((True) ∧ ((inR x tree.length) ∧ ((True) ∧ ((True) ∧ ((True) ∧ (True)))))) := ⟨trivial, ⟨trivial, ⟨inb_ok t3, ⟨trivial, ⟨trivial, ⟨trivial, trivial⟩⟩⟩⟩⟩⟩
      refine TS.reg [] ?_ ?_
      · apply prop_of ?_ hq
        kernel_rfl
      refine XS.then ?_
      refine TS.ret ?_
      obtain rfl : ((tree.getD x.toNat (([] : List Int), ((0 : Int), ((0 : Int), (0 : Int))))).1, (tree.getD x.toNat (([] : List Int), ((0 : Int), ((0 : Int), (0 : Int))))).2.1, (tree.getD x.toNat (([] : List Int), ((0 : Int), ((0 : Int), (0 : Int))))).2.2.1, (tree.getD x.toNat (([] : List Int), ((0 : Int), ((0 : Int), (0 : Int))))).2.2.2, true) = r := Option.some.inj h
      exact XS.fin [] ((True) ∧ ((True) ∧ (True))) (by kernel_rfl) ⟨trivial, ⟨trivial, trivial⟩⟩
  · intro fv2
    refine ⟨(mkTs 19 [(0, (.sl (.st (.pair (.sl (.int .i64)) (.pair (.int .i64) (.pair (.int .i64) (.int .i64))))) tree)), (1, (.fn 69 (.cons (.ptr 0 []) .nil)))], [(.box 43 (.sl (.int .i64) path)), (.box 45 (.st (.cons .nilS (.cons (.int .i64 (0 : Int)) (.cons (.int .i64 (0 : Int)) (.int .i64 (0 : Int))))))), (.sav (mkTs 17 [(0, (.sl (.st (.pair (.sl (.int .i64)) (.pair (.int .i64) (.pair (.int .i64) (.int .i64))))) tree)), (4, (.ptr 1 []))]) fv2)]), by kernel_rfl, ?_⟩
    refine TS.seq ?_
    have hq : (True) ∧ (True) := ⟨trivial, trivial⟩
    refine TS.reg [] ?_ ?_
    · apply prop_of ?_ hq
      kernel_rfl
    refine XS.then ?_
    refine TS.seq ?_
    refine TS.seq ?_
    have hq : (True) ∧ ((True) ∧ ((True) ∧ (True))) := ⟨trivial, ⟨trivial, ⟨trivial, trivial⟩⟩⟩
    refine TS.reg [] ?_ ?_
    · apply prop_of ?_ hq
      kernel_rfl
    refine XS.then ?_
    refine TS.block ?_
    refine TS.reLoop [2, 1, 0] (mkMask 19 [0, 1, 7, 8]) (D := Int) (fun d => match d with | x_2 => (mkTs 19 [(0, (.sl (.st (.pair (.sl (.int .i64)) (.pair (.int .i64) (.pair (.int .i64) (.int .i64))))) tree)), (1, (.fn 69 (.cons (.ptr 2 []) .nil))), (7, (.int .i64 ((tree.length : Nat) : Int))), (8, (.int .i64 x_2))], [(.sav (mkTs 17 [(0, (.sl (.st (.pair (.sl (.int .i64)) (.pair (.int .i64) (.pair (.int .i64) (.int .i64))))) tree)), (4, (.ptr 1 []))]) fv2), (.box 45 (.st (.cons .nilS (.cons (.int .i64 (0 : Int)) (.cons (.int .i64 (0 : Int)) (.int .i64 (0 : Int))))))), (.box 43 (.sl (.int .i64) path))])) (fun n' d => loopF (F23_l6 n tree path) n' d = some r) n (0 : Int) h ?_ (fun d => loopF_zero _ d r) ?_
    · kernel_rfl
    · rintro n6 x_2 h
      replace h : (bif (decide (x_2 < ((tree.length : Nat) : Int))) then (bif inb x_2 tree.length then ((F69 n ((tree.getD x_2.toNat (([] : List Int), ((0 : Int), ((0 : Int), (0 : Int))))).1) ((tree.getD x_2.toNat (([] : List Int), ((0 : Int), ((0 : Int), (0 : Int))))).2.1) ((tree.getD x_2.toNat (([] : List Int), ((0 : Int), ((0 : Int), (0 : Int))))).2.2.1) ((tree.getD x_2.toNat (([] : List Int), ((0 : Int), ((0 : Int), (0 : Int))))).2.2.2) path).bind fun y_6 => (bif y_6 then (F23_j5 n tree x_2) else ((loopF (F23_l6 n tree path) n6) (IntKind.wrap .i64 (x_2 + (1 : Int)))))) else none) else (F23_j5 n tree (-1 : Int))) = some r := h
      refine TS.seq ?_
      have hq : (True) ∧ (True) := ⟨trivial, trivial⟩
      refine TS.reg [] ?_ ?_
      · apply prop_of ?_ hq
        kernel_rfl
      refine XS.then ?_
      refine TS.seq ?_
      rcases bif_some h with ⟨c4, h⟩ | ⟨c5, h⟩
      · refine TS.cond (decide (x_2 < ((tree.length : Nat) : Int))) ?_ (fun hcz => ?_) (fun hcz => by rw [c4] at hcz; cases hcz)
        · kernel_rfl
        refine TS.skip ?_
        refine XS.then ?_
        refine TS.seq ?_
        refine TS.block ?_
        refine TS.seq ?_
        have hq : (True) ∧ ((True) ∧ (True)) := ⟨trivial, ⟨trivial, trivial⟩⟩
        refine TS.reg [] ?_ ?_
        · apply prop_of ?_ hq
          kernel_rfl
        refine XS.then ?_
        refine TS.seq ?_
        obtain ⟨t6, h⟩ := test_some h
        obtain ⟨y_6, hx7, h⟩ := bind_some' h
        have hq : (True) ∧ ((True) ∧ ((True) ∧ ((inR x_2 tree.length) ∧ ((True) ∧ (((((True) ∧ ((True) ∧ ((True) ∧ (True)))) ∧ ((True) ∧ (True))) ∧ PureC Try.prog 69 [(.st (.cons (.sl (.int .i64) (tree.getD x_2.toNat (([] : List Int), ((0 : Int), ((0 : Int), (0 : Int))))).1) (.cons (.int .i64 (tree.getD x_2.toNat (([] : List Int), ((0 : Int), ((0 : Int), (0 : Int))))).2.1) (.cons (.int .i64 (tree.getD x_2.toNat (([] : List Int), ((0 : Int), ((0 : Int), (0 : Int))))).2.2.1) (.int .i64 (tree.getD x_2.toNat (([] : List Int), ((0 : Int), ((0 : Int), (0 : Int))))).2.2.2))))), (.pv (.sl (.int .i64) path))] (.bool y_6) []) ∧ (True)))))) := ⟨trivial, ⟨trivial, ⟨trivial, ⟨inb_ok t6, ⟨trivial, ⟨⟨⟨⟨trivial, ⟨trivial, ⟨trivial, trivial⟩⟩⟩, ⟨trivial, trivial⟩⟩, F69_ok n ((tree.getD x_2.toNat (([] : List Int), ((0 : Int), ((0 : Int), (0 : Int))))).1) ((tree.getD x_2.toNat (([] : List Int), ((0 : Int), ((0 : Int), (0 : Int))))).2.1) ((tree.getD x_2.toNat (([] : List Int), ((0 : Int), ((0 : Int), (0 : Int))))).2.2.1) ((tree.getD x_2.toNat (([] : List Int), ((0 : Int), ((0 : Int), (0 : Int))))).2.2.2) path y_6 hx7⟩, trivial⟩⟩⟩⟩⟩⟩
        refine TS.reg [.none, .none, .none, .none, .none, (.call (.bool y_6) [])] ?_ ?_
        · apply prop_of ?_ hq
          kernel_rfl
        refine XS.then ?_
        rcases bif_some h with ⟨c8, h⟩ | ⟨c9, h⟩
        · refine TS.cond y_6 ?_ (fun hcz => ?_) (fun hcz => by rw [c8] at hcz; cases hcz)
          · kernel_rfl
          refine TS.seq ?_
          have hq : (True) ∧ ((True) ∧ (True)) := ⟨trivial, ⟨trivial, trivial⟩⟩
          refine TS.reg [] ?_ ?_
          · apply prop_of ?_ hq
            kernel_rfl
          refine XS.then ?_
          refine TS.ret ?_
          refine XS.blockRet ?_
          refine XS.passR ?_
          refine XS.passR ?_
          refine XS.blockRet ?_
          refine XS.passR ?_
          refine XS.backR 0 (mkTs 17 [(0, (.sl (.st (.pair (.sl (.int .i64)) (.pair (.int .i64) (.pair (.int .i64) (.int .i64))))) tree)), (4, (.ptr 1 []))]) (mkTs 17 [(0, (.sl (.st (.pair (.sl (.int .i64)) (.pair (.int .i64) (.pair (.int .i64) (.int .i64))))) tree)), (4, (.ptr 1 [])), (9, (.int .i64 x_2))], [.dead, (.box 45 (.st (.cons .nilS (.cons (.int .i64 (0 : Int)) (.cons (.int .i64 (0 : Int)) (.int .i64 (0 : Int))))))), (.box 43 (.sl (.int .i64) path))]) ((True) ∧ (True)) (by kernel_rfl) (by kernel_rfl) ⟨trivial, trivial⟩ ?_
          refine KS.ofX ?_
          refine XS.reAny [1] (mkMask 17 [0, 4, 9]) x_2 h ?_
          kernel_rfl
        · refine TS.cond y_6 ?_ (fun hcz => by rw [c9] at hcz; cases hcz) (fun hcz => ?_)
          · kernel_rfl
          refine TS.skip ?_
          refine XS.blockEnd ?_
          refine XS.then ?_
          have hq : (True) ∧ ((True) ∧ (True)) := ⟨trivial, ⟨trivial, trivial⟩⟩
          refine TS.reg [] ?_ ?_
          · apply prop_of ?_ hq
            kernel_rfl
          refine XS.reAny [0, 1, 2] (mkMask 19 [0, 1, 7, 8]) (IntKind.wrap .i64 (x_2 + (1 : Int))) h ?_
          kernel_rfl
      · refine TS.cond (decide (x_2 < ((tree.length : Nat) : Int))) ?_ (fun hcz => by rw [c5] at hcz; cases hcz) (fun hcz => ?_)
        · kernel_rfl
        refine TS.exit ?_
        refine XS.passE ?_
        refine XS.passE ?_
        refine XS.out ?_
        refine XS.then ?_
        refine TS.seq ?_
        have hq : (True) ∧ (True) := ⟨trivial, trivial⟩
        refine TS.reg [] ?_ ?_
        · apply prop_of ?_ hq
          kernel_rfl
        refine XS.then ?_
        refine TS.ret ?_
        refine XS.backR 0 (mkTs 17 [(0, (.sl (.st (.pair (.sl (.int .i64)) (.pair (.int .i64) (.pair (.int .i64) (.int .i64))))) tree)), (4, (.ptr 1 []))]) (mkTs 17 [(0, (.sl (.st (.pair (.sl (.int .i64)) (.pair (.int .i64) (.pair (.int .i64) (.int .i64))))) tree)), (4, (.ptr 1 [])), (9, (.int .i64 (-1 : Int)))], [.dead, (.box 45 (.st (.cons .nilS (.cons (.int .i64 (0 : Int)) (.cons (.int .i64 (0 : Int)) (.int .i64 (0 : Int))))))), (.box 43 (.sl (.int .i64) path))]) ((True) ∧ (True)) (by kernel_rfl) (by kernel_rfl) ⟨trivial, trivial⟩ ?_
        refine KS.ofX ?_
        refine XS.reAny [1] (mkMask 17 [0, 4, 9]) (-1 : Int) h ?_
        kernel_rfl

/-! plugtree/route.Check -/
def F141_l2 (n : Nat) (path : List Int) (k141_2 : Int → Option Int) : Int → Option Int
  | x => (bif (decide (x < ((path.length : Nat) : Int))) then (bif inb x path.length then (bif (decide ((path.getD x.toNat (0 : Int)) < (1 : Int))) then (some (1 : Int)) else (bif (decide ((path.getD x.toNat (0 : Int)) > (15 : Int))) then (some (1 : Int)) else (k141_2 (IntKind.wrap .i64 (x + (1 : Int)))))) else none) else (some (0 : Int)))
def F141 (n : Nat) (path : List Int) : Option Int := (bif (((path.length : Nat) : Int) == (0 : Int)) then (some (1 : Int)) else (bif (decide (((path.length : Nat) : Int) > (6 : Int))) then (some (2 : Int)) else (loopF (F141_l2 n path) n (0 : Int))))
theorem F141_ok (n : Nat) (path : List Int) (r : Int) (h : F141 n path = some r) : PureC Try.prog 141 [(.sl (.int .i64) path)] (.int .i64 r) [] := by
  refine PureC.mkS Try.func141 rfl rfl ?_
  intro w0 fz0 hfz
  replace h : (bif (((path.length : Nat) : Int) == (0 : Int)) then (some (1 : Int)) else (bif (decide (((path.length : Nat) : Int) > (6 : Int))) then (some (2 : Int)) else (loopF (F141_l2 n path) n (0 : Int)))) = some r := h
  refine TS.seq ?_
  have hq : (True) ∧ (True) := ⟨trivial, trivial⟩
  refine TS.reg [] ?_ ?_
  · apply prop_of ?_ hq
    kernel_rfl
  refine XS.then ?_
  refine TS.seq ?_
  refine TS.block ?_
  refine TS.seq ?_
  have hq : (True) ∧ ((True) ∧ ((True) ∧ ((True) ∧ (True)))) := ⟨trivial, ⟨trivial, ⟨trivial, ⟨trivial, trivial⟩⟩⟩⟩
  refine TS.reg [] ?_ ?_
  · apply prop_of ?_ hq
    kernel_rfl
  refine XS.then ?_
  rcases bif_some h with ⟨c1, h⟩ | ⟨c2, h⟩
  · refine TS.cond (((path.length : Nat) : Int) == (0 : Int)) ?_ (fun hcz => ?_) (fun hcz => by rw [c1] at hcz; cases hcz)
    · kernel_rfl
    refine TS.seq ?_
    have hq : (True) ∧ (True) := ⟨trivial, trivial⟩
    refine TS.reg [] ?_ ?_
    · apply prop_of ?_ hq
      kernel_rfl
    refine XS.then ?_
    refine TS.ret ?_
    refine XS.blockRet ?_
    refine XS.passR ?_
    obtain rfl : (1 : Int) = r := Option.some.inj h
    exact XS.fin [] ((True) ∧ (True)) (by kernel_rfl) ⟨trivial, trivial⟩
  · refine TS.cond (((path.length : Nat) : Int) == (0 : Int)) ?_ (fun hcz => by rw [c2] at hcz; cases hcz) (fun hcz => ?_)
    · kernel_rfl
    refine TS.seq ?_
    have hq : (True) ∧ ((True) ∧ ((True) ∧ ((True) ∧ (True)))) := ⟨trivial, ⟨trivial, ⟨trivial, ⟨trivial, trivial⟩⟩⟩⟩
    refine TS.reg [] ?_ ?_
    · apply prop_of ?_ hq
      kernel_rfl
    refine XS.then ?_
    rcases bif_some h with ⟨c3, h⟩ | ⟨c4, h⟩
    · refine TS.cond (decide (((path.length : Nat) : Int) > (6 : Int))) ?_ (fun hcz => ?_) (fun hcz => by rw [c3] at hcz; cases hcz)
      · kernel_rfl
      refine TS.seq ?_
      have hq : (True) ∧ (True) := ⟨trivial, trivial⟩
      refine TS.reg [] ?_ ?_
      · apply prop_of ?_ hq
        kernel_rfl
      refine XS.then ?_
      refine TS.ret ?_
      refine XS.blockRet ?_
      refine XS.passR ?_
      obtain rfl : (2 : Int) = r := Option.some.inj h
      exact XS.fin [] ((True) ∧ (True)) (by kernel_rfl) ⟨trivial, trivial⟩
    · refine TS.cond (decide (((path.length : Nat) : Int) > (6 : Int))) ?_ (fun hcz => by rw [c4] at hcz; cases hcz) (fun hcz => ?_)
      · kernel_rfl
      refine TS.skip ?_
      refine XS.blockEnd ?_
      refine XS.then ?_
      refine TS.seq ?_
      refine TS.seq ?_
      have hq : (True) ∧ ((True) ∧ ((True) ∧ (True))) := ⟨trivial, ⟨trivial, ⟨trivial, trivial⟩⟩⟩
      refine TS.reg [] ?_ ?_
      · apply prop_of ?_ hq
        kernel_rfl
      refine XS.then ?_
      refine TS.block ?_
      refine TS.reLoop [] (mkMask 26 [13, 14, 15]) (D := Int) (fun d => match d with | x => (mkTs 26 [(13, (.sl (.int .i64) path)), (14, (.int .i64 ((path.length : Nat) : Int))), (15, (.int .i64 x))], [])) (fun n' d => loopF (F141_l2 n path) n' d = some r) n (0 : Int) h ?_ (fun d => loopF_zero _ d r) ?_
      · kernel_rfl
      · rintro n2 x h
        replace h : (bif (decide (x < ((path.length : Nat) : Int))) then (bif inb x path.length then (bif (decide ((path.getD x.toNat (0 : Int)) < (1 : Int))) then (some (1 : Int)) else (bif (decide ((path.getD x.toNat (0 : Int)) > (15 : Int))) then (some (1 : Int)) else ((loopF (F141_l2 n path) n2) (IntKind.wrap .i64 (x + (1 : Int)))))) else none) else (some (0 : Int))) = some r := h
        refine TS.seq ?_
        have hq : (True) ∧ (True) := ⟨trivial, trivial⟩
        refine TS.reg [] ?_ ?_
        · apply prop_of ?_ hq
          kernel_rfl
        refine XS.then ?_
        refine TS.seq ?_
        rcases bif_some h with ⟨c5, h⟩ | ⟨c6, h⟩
        · refine TS.cond (decide (x < ((path.length : Nat) : Int))) ?_ (fun hcz => ?_) (fun hcz => by rw [c5] at hcz; cases hcz)
          · kernel_rfl
          refine TS.skip ?_
          refine XS.then ?_
          refine TS.seq ?_
          refine TS.block ?_
          refine TS.seq ?_
          obtain ⟨t7, h⟩ := test_some h
          have hq : (inR x path.length) ∧ ((True) ∧ ((True) ∧ (True))) := ⟨inb_ok t7, ⟨trivial, ⟨trivial, trivial⟩⟩⟩
          refine TS.reg [] ?_ ?_
          · apply prop_of ?_ hq
            kernel_rfl
          refine XS.then ?_
          refine TS.seq ?_
          rcases bif_some h with ⟨c8, h⟩ | ⟨c9, h⟩
          · have hq : (True) ∧ ((True) ∧ (((True) ∧ (decide ((path.getD x.toNat (0 : Int)) < (1 : Int))) = true) ∧ ((True) ∧ (True)))) := ⟨trivial, ⟨trivial, ⟨⟨trivial, c8⟩, ⟨trivial, trivial⟩⟩⟩⟩
            refine TS.reg [.none, .none, .dec true] ?_ ?_
            · apply prop_of ?_ hq
              kernel_rfl
            refine XS.then ?_
            refine TS.yes ?_ ?_
            · kernel_rfl
            refine TS.seq ?_
            have hq : (True) ∧ (True) := ⟨trivial, trivial⟩
            refine TS.reg [] ?_ ?_
            · apply prop_of ?_ hq
              kernel_rfl
            refine XS.then ?_
            refine TS.ret ?_
            refine XS.blockRet ?_
            refine XS.passR ?_
            refine XS.passR ?_
            refine XS.blockRet ?_
            refine XS.passR ?_
            obtain rfl : (1 : Int) = r := Option.some.inj h
            exact XS.fin [] ((True) ∧ (True)) (by kernel_rfl) ⟨trivial, trivial⟩
          · have hq : (True) ∧ ((True) ∧ (((True) ∧ (decide ((path.getD x.toNat (0 : Int)) < (1 : Int))) = false) ∧ ((True) ∧ ((True) ∧ ((True) ∧ (True)))))) := ⟨trivial, ⟨trivial, ⟨⟨trivial, c9⟩, ⟨trivial, ⟨trivial, ⟨trivial, trivial⟩⟩⟩⟩⟩⟩
            refine TS.reg [.none, .none, .dec false] ?_ ?_
            · apply prop_of ?_ hq
              kernel_rfl
            refine XS.then ?_
            rcases bif_some h with ⟨c10, h⟩ | ⟨c11, h⟩
            · refine TS.cond (decide ((path.getD x.toNat (0 : Int)) > (15 : Int))) ?_ (fun hcz => ?_) (fun hcz => by rw [c10] at hcz; cases hcz)
              · kernel_rfl
              refine TS.seq ?_
              have hq : (True) ∧ (True) := ⟨trivial, trivial⟩
              refine TS.reg [] ?_ ?_
              · apply prop_of ?_ hq
                kernel_rfl
              refine XS.then ?_
              refine TS.ret ?_
              refine XS.blockRet ?_
              refine XS.passR ?_
              refine XS.passR ?_
              refine XS.blockRet ?_
              refine XS.passR ?_
              obtain rfl : (1 : Int) = r := Option.some.inj h
              exact XS.fin [] ((True) ∧ (True)) (by kernel_rfl) ⟨trivial, trivial⟩
            · refine TS.cond (decide ((path.getD x.toNat (0 : Int)) > (15 : Int))) ?_ (fun hcz => by rw [c11] at hcz; cases hcz) (fun hcz => ?_)
              · kernel_rfl
              refine TS.skip ?_
              refine XS.blockEnd ?_
              refine XS.then ?_
              have hq : (True) ∧ ((True) ∧ (True)) := ⟨trivial, ⟨trivial, trivial⟩⟩
              refine TS.reg [] ?_ ?_
              · apply prop_of ?_ hq
                kernel_rfl
              refine XS.reAny [] (mkMask 26 [13, 14, 15]) (IntKind.wrap .i64 (x + (1 : Int))) h ?_
              kernel_rfl
        · refine TS.cond (decide (x < ((path.length : Nat) : Int))) ?_ (fun hcz => by rw [c6] at hcz; cases hcz) (fun hcz => ?_)
          · kernel_rfl
          refine TS.exit ?_
          refine XS.passE ?_
          refine XS.passE ?_
          refine XS.out ?_
          refine XS.then ?_
          refine TS.seq ?_
          have hq : (True) ∧ (True) := ⟨trivial, trivial⟩
          refine TS.reg [] ?_ ?_
          · apply prop_of ?_ hq
            kernel_rfl
          refine XS.then ?_
          refine TS.ret ?_
          obtain rfl : (0 : Int) = r := Option.some.inj h
          exact XS.fin [] ((True) ∧ (True)) (by kernel_rfl) ⟨trivial, trivial⟩

/-! plugtree/topo.valid -/
def F71_j2 (n : Nat) (n_Path : List Int) (n_Kind : Int) (n_Ports : Int) : Bool → Option Bool
  | x => (bif x then (some false) else (bif (n_Kind == (1 : Int)) then (bif (decide (n_Ports ≥ (1 : Int))) then (bif (decide (n_Ports ≤ (15 : Int))) then (some (decide (((n_Path.length : Nat) : Int) < (6 : Int)))) else (some false)) else (some false)) else (some (n_Ports == (0 : Int)))))
def F71 (n : Nat) (n_Path : List Int) (n_Kind : Int) (n_Ports : Int) (n_Serial : Int) : Option Bool := ((F141 n n_Path).bind fun y_2 => (bif (y_2 != (0 : Int)) then (F71_j2 n n_Path n_Kind n_Ports true) else (bif (decide (n_Kind < (1 : Int))) then (F71_j2 n n_Path n_Kind n_Ports true) else (F71_j2 n n_Path n_Kind n_Ports (decide (n_Kind > (3 : Int)))))))
theorem F71_ok (n : Nat) (n_Path : List Int) (n_Kind : Int) (n_Ports : Int) (n_Serial : Int) (r : Bool) (h : F71 n n_Path n_Kind n_Ports n_Serial = some r) : PureC Try.prog 71 [(.st (.cons (.sl (.int .i64) n_Path) (.cons (.int .i64 n_Kind) (.cons (.int .i64 n_Ports) (.int .i64 n_Serial)))))] (.bool r) [] := by
  refine PureC.mkS Try.func71 rfl rfl ?_
  intro w0 fz0 hfz
  replace h : ((F141 n n_Path).bind fun y_2 => (bif (y_2 != (0 : Int)) then (F71_j2 n n_Path n_Kind n_Ports true) else (bif (decide (n_Kind < (1 : Int))) then (F71_j2 n n_Path n_Kind n_Ports true) else (F71_j2 n n_Path n_Kind n_Ports (decide (n_Kind > (3 : Int))))))) = some r := h
  refine TS.seq ?_
  have hq : (True) ∧ ((True) ∧ (True)) := ⟨trivial, ⟨trivial, trivial⟩⟩
  refine TS.reg [] ?_ ?_
  · apply prop_of ?_ hq
    kernel_rfl
  refine XS.then ?_
  refine TS.seq ?_
  refine TS.seq ?_
  refine TS.cut (D := Bool) (fun d => match d with | x => (mkTs 37 [(1, (.ptr 0 [])), (16, (.bool x))], [(.box 45 (.st (.cons (.sl (.int .i64) n_Path) (.cons (.int .i64 n_Kind) (.cons (.int .i64 n_Ports) (.int .i64 n_Serial))))))])) (fun d => F71_j2 n n_Path n_Kind n_Ports d = some r) ?_ ?_
  · rintro x h
    replace h : (bif x then (some false) else (bif (n_Kind == (1 : Int)) then (bif (decide (n_Ports ≥ (1 : Int))) then (bif (decide (n_Ports ≤ (15 : Int))) then (some (decide (((n_Path.length : Nat) : Int) < (6 : Int)))) else (some false)) else (some false)) else (some (n_Ports == (0 : Int))))) = some r := h
    refine XS.then ?_
    rcases bif_some h with ⟨c1, h⟩ | ⟨c2, h⟩
    · refine TS.cond x ?_ (fun hcz => ?_) (fun hcz => by rw [c1] at hcz; cases hcz)
      · kernel_rfl
      refine TS.seq ?_
      have hq : (True) ∧ (True) := ⟨trivial, trivial⟩
      refine TS.reg [] ?_ ?_
      · apply prop_of ?_ hq
        kernel_rfl
      refine XS.then ?_
      refine TS.ret ?_
      refine XS.passR ?_
      obtain rfl : false = r := Option.some.inj h
      exact XS.fin [] ((True) ∧ (True)) (by kernel_rfl) ⟨trivial, trivial⟩
    · refine TS.cond x ?_ (fun hcz => by rw [c2] at hcz; cases hcz) (fun hcz => ?_)
      · kernel_rfl
      refine TS.skip ?_
      refine XS.then ?_
      refine TS.seq ?_
      refine TS.seq ?_
      have hq : (True) ∧ ((True) ∧ ((True) ∧ (True))) := ⟨trivial, ⟨trivial, ⟨trivial, trivial⟩⟩⟩
      refine TS.reg [] ?_ ?_
      · apply prop_of ?_ hq
        kernel_rfl
      refine XS.then ?_
      rcases bif_some h with ⟨c3, h⟩ | ⟨c4, h⟩
      · refine TS.cond (n_Kind == (1 : Int)) ?_ (fun hcz => ?_) (fun hcz => by rw [c3] at hcz; cases hcz)
        · kernel_rfl
        refine TS.seq ?_
        rcases bif_some h with ⟨c5, h⟩ | ⟨c6, h⟩
        · rcases bif_some h with ⟨c7, h⟩ | ⟨c8, h⟩
          · have hq : (True) ∧ ((True) ∧ ((True) ∧ (((True) ∧ (decide (n_Ports ≥ (1 : Int))) = true) ∧ ((True) ∧ ((True) ∧ ((True) ∧ ((True) ∧ (((True) ∧ (decide (n_Ports ≤ (15 : Int))) = true) ∧ ((True) ∧ ((True) ∧ ((True) ∧ ((True) ∧ ((True) ∧ ((True) ∧ (True))))))))))))))) := ⟨trivial, ⟨trivial, ⟨trivial, ⟨⟨trivial, c5⟩, ⟨trivial, ⟨trivial, ⟨trivial, ⟨trivial, ⟨⟨trivial, c7⟩, ⟨trivial, ⟨trivial, ⟨trivial, ⟨trivial, ⟨trivial, ⟨trivial, trivial⟩⟩⟩⟩⟩⟩⟩⟩⟩⟩⟩⟩⟩⟩⟩
            refine TS.reg [.none, .none, .none, .dec true, .none, .none, .none, .none, .dec true] ?_ ?_
            · apply prop_of ?_ hq
              kernel_rfl
            refine XS.then ?_
            refine TS.ret ?_
            refine XS.passR ?_
            obtain rfl : (decide (((n_Path.length : Nat) : Int) < (6 : Int))) = r := Option.some.inj h
            exact XS.fin [] ((True) ∧ (True)) (by kernel_rfl) ⟨trivial, trivial⟩
          · have hq : (True) ∧ ((True) ∧ ((True) ∧ (((True) ∧ (decide (n_Ports ≥ (1 : Int))) = true) ∧ ((True) ∧ ((True) ∧ ((True) ∧ ((True) ∧ (((True) ∧ (decide (n_Ports ≤ (15 : Int))) = false) ∧ ((True) ∧ ((True) ∧ (True))))))))))) := ⟨trivial, ⟨trivial, ⟨trivial, ⟨⟨trivial, c5⟩, ⟨trivial, ⟨trivial, ⟨trivial, ⟨trivial, ⟨⟨trivial, c8⟩, ⟨trivial, ⟨trivial, trivial⟩⟩⟩⟩⟩⟩⟩⟩⟩⟩⟩
            refine TS.reg [.none, .none, .none, .dec true, .none, .none, .none, .none, .dec false] ?_ ?_
            · apply prop_of ?_ hq
              kernel_rfl
            refine XS.then ?_
            refine TS.ret ?_
            refine XS.passR ?_
            obtain rfl : false = r := Option.some.inj h
            exact XS.fin [] ((True) ∧ (True)) (by kernel_rfl) ⟨trivial, trivial⟩
        · have hq : (True) ∧ ((True) ∧ ((True) ∧ (((True) ∧ (decide (n_Ports ≥ (1 : Int))) = false) ∧ ((True) ∧ ((True) ∧ ((True) ∧ ((True) ∧ (True)))))))) := ⟨trivial, ⟨trivial, ⟨trivial, ⟨⟨trivial, c6⟩, ⟨trivial, ⟨trivial, ⟨trivial, ⟨trivial, trivial⟩⟩⟩⟩⟩⟩⟩⟩
          refine TS.reg [.none, .none, .none, .dec false] ?_ ?_
          · apply prop_of ?_ hq
            kernel_rfl
          refine XS.then ?_
          refine TS.ret ?_
          refine XS.passR ?_
          obtain rfl : false = r := Option.some.inj h
          exact XS.fin [] ((True) ∧ (True)) (by kernel_rfl) ⟨trivial, trivial⟩
      · refine TS.cond (n_Kind == (1 : Int)) ?_ (fun hcz => by rw [c4] at hcz; cases hcz) (fun hcz => ?_)
        · kernel_rfl
        refine TS.skip ?_
        refine XS.then ?_
        refine TS.seq ?_
        have hq : (True) ∧ ((True) ∧ ((True) ∧ ((True) ∧ (True)))) := ⟨trivial, ⟨trivial, ⟨trivial, ⟨trivial, trivial⟩⟩⟩⟩
        refine TS.reg [] ?_ ?_
        · apply prop_of ?_ hq
          kernel_rfl
        refine XS.then ?_
        refine TS.ret ?_
        obtain rfl : (n_Ports == (0 : Int)) = r := Option.some.inj h
        exact XS.fin [] ((True) ∧ (True)) (by kernel_rfl) ⟨trivial, trivial⟩
  · obtain ⟨y_2, hx9, h⟩ := bind_some' h
    rcases bif_some h with ⟨c10, h⟩ | ⟨c11, h⟩
    · have hq : (True) ∧ ((True) ∧ ((PureC Try.prog 141 [(.sl (.int .i64) n_Path)] (.int .i64 y_2) []) ∧ ((True) ∧ (((True) ∧ (y_2 != (0 : Int)) = true) ∧ ((True) ∧ ((True) ∧ ((True) ∧ (True)))))))) := ⟨trivial, ⟨trivial, ⟨F141_ok n n_Path y_2 hx9, ⟨trivial, ⟨⟨trivial, c10⟩, ⟨trivial, ⟨trivial, ⟨trivial, trivial⟩⟩⟩⟩⟩⟩⟩⟩
      refine TS.reg [.none, .none, (.call (.int .i64 y_2) []), .none, .dec true] ?_ ?_
      · apply prop_of ?_ hq
        kernel_rfl
      refine XS.reAny [0] (mkMask 37 [1, 16]) true h ?_
      kernel_rfl
    · rcases bif_some h with ⟨c12, h⟩ | ⟨c13, h⟩
      · have hq : (True) ∧ ((True) ∧ ((PureC Try.prog 141 [(.sl (.int .i64) n_Path)] (.int .i64 y_2) []) ∧ ((True) ∧ (((True) ∧ (y_2 != (0 : Int)) = false) ∧ ((True) ∧ ((True) ∧ ((True) ∧ ((True) ∧ (((True) ∧ (decide (n_Kind < (1 : Int))) = true) ∧ ((True) ∧ (True))))))))))) := ⟨trivial, ⟨trivial, ⟨F141_ok n n_Path y_2 hx9, ⟨trivial, ⟨⟨trivial, c11⟩, ⟨trivial, ⟨trivial, ⟨trivial, ⟨trivial, ⟨⟨trivial, c12⟩, ⟨trivial, trivial⟩⟩⟩⟩⟩⟩⟩⟩⟩⟩⟩
        refine TS.reg [.none, .none, (.call (.int .i64 y_2) []), .none, .dec false, .none, .none, .none, .none, .dec true] ?_ ?_
        · apply prop_of ?_ hq
          kernel_rfl
        refine XS.reAny [0] (mkMask 37 [1, 16]) true h ?_
        kernel_rfl
      · have hq : (True) ∧ ((True) ∧ ((PureC Try.prog 141 [(.sl (.int .i64) n_Path)] (.int .i64 y_2) []) ∧ ((True) ∧ (((True) ∧ (y_2 != (0 : Int)) = false) ∧ ((True) ∧ ((True) ∧ ((True) ∧ ((True) ∧ (((True) ∧ (decide (n_Kind < (1 : Int))) = false) ∧ ((True) ∧ ((True) ∧ ((True) ∧ ((True) ∧ (True)))))))))))))) := ⟨trivial, ⟨trivial, ⟨F141_ok n n_Path y_2 hx9, ⟨trivial, ⟨⟨trivial, c11⟩, ⟨trivial, ⟨trivial, ⟨trivial, ⟨trivial, ⟨⟨trivial, c13⟩, ⟨trivial, ⟨trivial, ⟨trivial, ⟨trivial, trivial⟩⟩⟩⟩⟩⟩⟩⟩⟩⟩⟩⟩⟩⟩
        refine TS.reg [.none, .none, (.call (.int .i64 y_2) []), .none, .dec false, .none, .none, .none, .none, .dec false] ?_ ?_
        · apply prop_of ?_ hq
          kernel_rfl
        refine XS.reAny [0] (mkMask 37 [1, 16]) (decide (n_Kind > (3 : Int))) h ?_
        kernel_rfl

/-! plugtree/route.common[int] -/
def F142_l2 (n : Nat) (a : List Int) (b : List Int) (k142_2 : Int → Option Int) : Int → Option Int
  | vn => (bif (decide (vn < ((a.length : Nat) : Int))) then (bif (decide (vn < ((b.length : Nat) : Int))) then (bif inb vn a.length then (bif inb vn b.length then (bif ((a.getD vn.toNat (0 : Int)) == (b.getD vn.toNat (0 : Int))) then (k142_2 (IntKind.wrap .i64 (vn + (1 : Int)))) else (some vn)) else none) else none) else (some vn)) else (some vn))
def F142 (n : Nat) (a : List Int) (b : List Int) : Option Int := (loopF (F142_l2 n a b) n (0 : Int))
theorem F142_ok (n : Nat) (a : List Int) (b : List Int) (r : Int) (h : F142 n a b = some r) : PureC Try.prog 142 [(.sl (.int .i64) a), (.sl (.int .i64) b)] (.int .i64 r) [] := by
  refine PureC.mkS Try.func142 rfl rfl ?_
  intro w0 fz0 hfz
  replace h : (loopF (F142_l2 n a b) n (0 : Int)) = some r := h
  refine TS.seq ?_
  have hq : (True) ∧ (True) := ⟨trivial, trivial⟩
  refine TS.reg [] ?_ ?_
  · apply prop_of ?_ hq
    kernel_rfl
  refine XS.then ?_
  refine TS.seq ?_
  have hq : (True) ∧ (True) := ⟨trivial, trivial⟩
  refine TS.reg [] ?_ ?_
  · apply prop_of ?_ hq
    kernel_rfl
  refine XS.then ?_
  refine TS.seq ?_
  refine TS.block ?_
  refine TS.reLoop [] (mkMask 30 [0, 1, 5]) (D := Int) (fun d => match d with | vn => (mkTs 30 [(0, (.sl (.int .i64) a)), (1, (.sl (.int .i64) b)), (5, (.int .i64 vn))], [])) (fun n' d => loopF (F142_l2 n a b) n' d = some r) n (0 : Int) h ?_ (fun d => loopF_zero _ d r) ?_
  · kernel_rfl
  · rintro n2 vn h
    replace h : (bif (decide (vn < ((a.length : Nat) : Int))) then (bif (decide (vn < ((b.length : Nat) : Int))) then (bif inb vn a.length then (bif inb vn b.length then (bif ((a.getD vn.toNat (0 : Int)) == (b.getD vn.toNat (0 : Int))) then ((loopF (F142_l2 n a b) n2) (IntKind.wrap .i64 (vn + (1 : Int)))) else (some vn)) else none) else none) else (some vn)) else (some vn)) = some r := h
    refine TS.seq ?_
    refine TS.seq ?_
    rcases bif_some h with ⟨c1, h⟩ | ⟨c2, h⟩
    · rcases bif_some h with ⟨c3, h⟩ | ⟨c4, h⟩
      · obtain ⟨t5, h⟩ := test_some h
        obtain ⟨t6, h⟩ := test_some h
        have hq : ((True) ∧ ((True) ∧ ((True) ∧ ((True) ∧ (((True) ∧ (decide (vn < ((a.length : Nat) : Int))) = true) ∧ ((True) ∧ ((True) ∧ ((True) ∧ ((True) ∧ ((True) ∧ (((True) ∧ (decide (vn < ((b.length : Nat) : Int))) = true) ∧ ((True) ∧ ((True) ∧ ((inR vn a.length) ∧ ((True) ∧ ((True) ∧ ((True) ∧ ((inR vn b.length) ∧ ((True) ∧ ((True) ∧ ((True) ∧ (True)))))))))))))))))))))) ∧ (True) := ⟨⟨trivial, ⟨trivial, ⟨trivial, ⟨trivial, ⟨⟨trivial, c1⟩, ⟨trivial, ⟨trivial, ⟨trivial, ⟨trivial, ⟨trivial, ⟨⟨trivial, c3⟩, ⟨trivial, ⟨trivial, ⟨inb_ok t5, ⟨trivial, ⟨trivial, ⟨trivial, ⟨inb_ok t6, ⟨trivial, ⟨trivial, ⟨trivial, trivial⟩⟩⟩⟩⟩⟩⟩⟩⟩⟩⟩⟩⟩⟩⟩⟩⟩⟩⟩⟩⟩, trivial⟩
        refine TS.draw 21 [] [.none, .none, .none, .none, .dec true, .none, .none, .none, .none, .none, .dec true] (by kernel_rfl) ?_ ?_
        · apply prop_of ?_ hq
          kernel_rfl
        refine XS.then ?_
        rcases bif_some h with ⟨c7, h⟩ | ⟨c8, h⟩
        · refine TS.cond ((a.getD vn.toNat (0 : Int)) == (b.getD vn.toNat (0 : Int))) ?_ (fun hcz => ?_) (fun hcz => by rw [c7] at hcz; cases hcz)
          · kernel_rfl
          refine TS.skip ?_
          refine XS.then ?_
          refine TS.block ?_
          have hq : (True) ∧ ((True) ∧ ((True) ∧ (True))) := ⟨trivial, ⟨trivial, ⟨trivial, trivial⟩⟩⟩
          refine TS.reg [] ?_ ?_
          · apply prop_of ?_ hq
            kernel_rfl
          refine XS.blockEnd ?_
          refine XS.reAny [] (mkMask 30 [0, 1, 5]) (IntKind.wrap .i64 (vn + (1 : Int))) h ?_
          kernel_rfl
        · refine TS.cond ((a.getD vn.toNat (0 : Int)) == (b.getD vn.toNat (0 : Int))) ?_ (fun hcz => by rw [c8] at hcz; cases hcz) (fun hcz => ?_)
          · kernel_rfl
          refine TS.exit ?_
          refine XS.passE ?_
          refine XS.passE ?_
          refine XS.out ?_
          refine XS.then ?_
          refine TS.seq ?_
          have hq : (True) ∧ ((True) ∧ (True)) := ⟨trivial, ⟨trivial, trivial⟩⟩
          refine TS.reg [] ?_ ?_
          · apply prop_of ?_ hq
            kernel_rfl
          refine XS.then ?_
          refine TS.ret ?_
          obtain rfl : vn = r := Option.some.inj h
          exact XS.fin [] ((True) ∧ (True)) (by kernel_rfl) ⟨trivial, trivial⟩
      · have hq : ((True) ∧ ((True) ∧ ((True) ∧ ((True) ∧ (((True) ∧ (decide (vn < ((a.length : Nat) : Int))) = true) ∧ ((True) ∧ ((True) ∧ ((True) ∧ ((True) ∧ ((True) ∧ (((True) ∧ (decide (vn < ((b.length : Nat) : Int))) = false) ∧ ((True) ∧ (True))))))))))))) ∧ (True) := ⟨⟨trivial, ⟨trivial, ⟨trivial, ⟨trivial, ⟨⟨trivial, c1⟩, ⟨trivial, ⟨trivial, ⟨trivial, ⟨trivial, ⟨trivial, ⟨⟨trivial, c4⟩, ⟨trivial, trivial⟩⟩⟩⟩⟩⟩⟩⟩⟩⟩⟩⟩, trivial⟩
        refine TS.draw 21 [] [.none, .none, .none, .none, .dec true, .none, .none, .none, .none, .none, .dec false] (by kernel_rfl) ?_ ?_
        · apply prop_of ?_ hq
          kernel_rfl
        refine XS.then ?_
        refine TS.no ?_ ?_
        · kernel_rfl
        refine TS.exit ?_
        refine XS.passE ?_
        refine XS.passE ?_
        refine XS.out ?_
        refine XS.then ?_
        refine TS.seq ?_
        have hq : (True) ∧ ((True) ∧ (True)) := ⟨trivial, ⟨trivial, trivial⟩⟩
        refine TS.reg [] ?_ ?_
        · apply prop_of ?_ hq
          kernel_rfl
        refine XS.then ?_
        refine TS.ret ?_
        obtain rfl : vn = r := Option.some.inj h
        exact XS.fin [] ((True) ∧ (True)) (by kernel_rfl) ⟨trivial, trivial⟩
    · have hq : ((True) ∧ ((True) ∧ ((True) ∧ ((True) ∧ (((True) ∧ (decide (vn < ((a.length : Nat) : Int))) = false) ∧ ((True) ∧ ((True) ∧ ((True) ∧ (True))))))))) ∧ (True) := ⟨⟨trivial, ⟨trivial, ⟨trivial, ⟨trivial, ⟨⟨trivial, c2⟩, ⟨trivial, ⟨trivial, ⟨trivial, trivial⟩⟩⟩⟩⟩⟩⟩⟩, trivial⟩
      refine TS.draw 21 [] [.none, .none, .none, .none, .dec false] (by kernel_rfl) ?_ ?_
      · apply prop_of ?_ hq
        kernel_rfl
      refine XS.then ?_
      refine TS.no ?_ ?_
      · kernel_rfl
      refine TS.exit ?_
      refine XS.passE ?_
      refine XS.passE ?_
      refine XS.out ?_
      refine XS.then ?_
      refine TS.seq ?_
      have hq : (True) ∧ ((True) ∧ (True)) := ⟨trivial, ⟨trivial, trivial⟩⟩
      refine TS.reg [] ?_ ?_
      · apply prop_of ?_ hq
        kernel_rfl
      refine XS.then ?_
      refine TS.ret ?_
      obtain rfl : vn = r := Option.some.inj h
      exact XS.fin [] ((True) ∧ (True)) (by kernel_rfl) ⟨trivial, trivial⟩

/-! cmp.isNaN[int] -/
def F173 (n : Nat) (x : Int) : Option Bool := (some (x != x))
theorem F173_ok (n : Nat) (x : Int) (r : Bool) (h : F173 n x = some r) : PureC Try.prog 173 [(.int .i64 x)] (.bool r) [] := by
  refine PureC.mkS Try.func173 rfl rfl ?_
  intro w0 fz0 hfz
  replace h : (some (x != x)) = some r := h
  refine TS.seq ?_
  have hq : (True) ∧ (True) := ⟨trivial, trivial⟩
  refine TS.reg [] ?_ ?_
  · apply prop_of ?_ hq
    kernel_rfl
  refine XS.then ?_
  refine TS.seq ?_
  have hq : (True) ∧ ((True) ∧ ((True) ∧ ((True) ∧ (True)))) := ⟨trivial, ⟨trivial, ⟨trivial, ⟨trivial, trivial⟩⟩⟩⟩
  refine TS.reg [] ?_ ?_
  · apply prop_of ?_ hq
    kernel_rfl
  refine XS.then ?_
  refine TS.ret ?_
  obtain rfl : (x != x) = r := Option.some.inj h
  exact XS.fin [] ((True) ∧ (True)) (by kernel_rfl) ⟨trivial, trivial⟩

/-! cmp.Compare[int] -/
def F143 (n : Nat) (x : Int) (y : Int) : Option Int := ((F173 n x).bind fun y_3 => ((F173 n y).bind fun y_4 => (bif y_3 then (bif y_4 then (some (0 : Int)) else (some (-1 : Int))) else (bif y_4 then (some (1 : Int)) else (bif (decide (x < y)) then (some (-1 : Int)) else (bif (decide (x > y)) then (some (1 : Int)) else (some (0 : Int))))))))
theorem F143_ok (n : Nat) (x : Int) (y : Int) (r : Int) (h : F143 n x y = some r) : PureC Try.prog 143 [(.int .i64 x), (.int .i64 y)] (.int .i64 r) [] := by
  refine PureC.mkS Try.func143 rfl rfl ?_
  intro w0 fz0 hfz
  replace h : ((F173 n x).bind fun y_3 => ((F173 n y).bind fun y_4 => (bif y_3 then (bif y_4 then (some (0 : Int)) else (some (-1 : Int))) else (bif y_4 then (some (1 : Int)) else (bif (decide (x < y)) then (some (-1 : Int)) else (bif (decide (x > y)) then (some (1 : Int)) else (some (0 : Int)))))))) = some r := h
  refine TS.seq ?_
  have hq : (True) ∧ (True) := ⟨trivial, trivial⟩
  refine TS.reg [] ?_ ?_
  · apply prop_of ?_ hq
    kernel_rfl
  refine XS.then ?_
  refine TS.seq ?_
  obtain ⟨y_3, hx1, h⟩ := bind_some' h
  have hq : (True) ∧ ((PureC Try.prog 173 [(.int .i64 x)] (.bool y_3) []) ∧ ((True) ∧ (True))) := ⟨trivial, ⟨F173_ok n x y_3 hx1, ⟨trivial, trivial⟩⟩⟩
  refine TS.reg [.none, (.call (.bool y_3) [])] ?_ ?_
  · apply prop_of ?_ hq
    kernel_rfl
  refine XS.then ?_
  refine TS.seq ?_
  obtain ⟨y_4, hx2, h⟩ := bind_some' h
  have hq : (True) ∧ ((PureC Try.prog 173 [(.int .i64 y)] (.bool y_4) []) ∧ ((True) ∧ (True))) := ⟨trivial, ⟨F173_ok n y y_4 hx2, ⟨trivial, trivial⟩⟩⟩
  refine TS.reg [.none, (.call (.bool y_4) [])] ?_ ?_
  · apply prop_of ?_ hq
    kernel_rfl
  refine XS.then ?_
  refine TS.seq ?_
  refine TS.seq ?_
  have hq : (True) ∧ (True) := ⟨trivial, trivial⟩
  refine TS.reg [] ?_ ?_
  · apply prop_of ?_ hq
    kernel_rfl
  refine XS.then ?_
  rcases bif_some h with ⟨c3, h⟩ | ⟨c4, h⟩
  · refine TS.cond y_3 ?_ (fun hcz => ?_) (fun hcz => by rw [c3] at hcz; cases hcz)
    · kernel_rfl
    refine TS.seq ?_
    refine TS.seq ?_
    have hq : (True) ∧ (True) := ⟨trivial, trivial⟩
    refine TS.reg [] ?_ ?_
    · apply prop_of ?_ hq
      kernel_rfl
    refine XS.then ?_
    rcases bif_some h with ⟨c5, h⟩ | ⟨c6, h⟩
    · refine TS.cond y_4 ?_ (fun hcz => ?_) (fun hcz => by rw [c5] at hcz; cases hcz)
      · kernel_rfl
      refine TS.seq ?_
      have hq : (True) ∧ (True) := ⟨trivial, trivial⟩
      refine TS.reg [] ?_ ?_
      · apply prop_of ?_ hq
        kernel_rfl
      refine XS.then ?_
      refine TS.ret ?_
      refine XS.passR ?_
      refine XS.passR ?_
      obtain rfl : (0 : Int) = r := Option.some.inj h
      exact XS.fin [] ((True) ∧ (True)) (by kernel_rfl) ⟨trivial, trivial⟩
    · refine TS.cond y_4 ?_ (fun hcz => by rw [c6] at hcz; cases hcz) (fun hcz => ?_)
      · kernel_rfl
      refine TS.skip ?_
      refine XS.then ?_
      refine TS.seq ?_
      have hq : (True) ∧ (True) := ⟨trivial, trivial⟩
      refine TS.reg [] ?_ ?_
      · apply prop_of ?_ hq
        kernel_rfl
      refine XS.then ?_
      refine TS.ret ?_
      refine XS.passR ?_
      obtain rfl : (-1 : Int) = r := Option.some.inj h
      exact XS.fin [] ((True) ∧ (True)) (by kernel_rfl) ⟨trivial, trivial⟩
  · refine TS.cond y_3 ?_ (fun hcz => by rw [c4] at hcz; cases hcz) (fun hcz => ?_)
    · kernel_rfl
    refine TS.skip ?_
    refine XS.then ?_
    refine TS.seq ?_
    refine TS.seq ?_
    have hq : (True) ∧ (True) := ⟨trivial, trivial⟩
    refine TS.reg [] ?_ ?_
    · apply prop_of ?_ hq
      kernel_rfl
    refine XS.then ?_
    rcases bif_some h with ⟨c7, h⟩ | ⟨c8, h⟩
    · refine TS.cond y_4 ?_ (fun hcz => ?_) (fun hcz => by rw [c7] at hcz; cases hcz)
      · kernel_rfl
      refine TS.seq ?_
      have hq : (True) ∧ (True) := ⟨trivial, trivial⟩
      refine TS.reg [] ?_ ?_
      · apply prop_of ?_ hq
        kernel_rfl
      refine XS.then ?_
      refine TS.ret ?_
      refine XS.passR ?_
      obtain rfl : (1 : Int) = r := Option.some.inj h
      exact XS.fin [] ((True) ∧ (True)) (by kernel_rfl) ⟨trivial, trivial⟩
    · refine TS.cond y_4 ?_ (fun hcz => by rw [c8] at hcz; cases hcz) (fun hcz => ?_)
      · kernel_rfl
      refine TS.skip ?_
      refine XS.then ?_
      refine TS.seq ?_
      refine TS.seq ?_
      have hq : (True) ∧ ((True) ∧ ((True) ∧ (True))) := ⟨trivial, ⟨trivial, ⟨trivial, trivial⟩⟩⟩
      refine TS.reg [] ?_ ?_
      · apply prop_of ?_ hq
        kernel_rfl
      refine XS.then ?_
      rcases bif_some h with ⟨c9, h⟩ | ⟨c10, h⟩
      · refine TS.cond (decide (x < y)) ?_ (fun hcz => ?_) (fun hcz => by rw [c9] at hcz; cases hcz)
        · kernel_rfl
        refine TS.seq ?_
        have hq : (True) ∧ (True) := ⟨trivial, trivial⟩
        refine TS.reg [] ?_ ?_
        · apply prop_of ?_ hq
          kernel_rfl
        refine XS.then ?_
        refine TS.ret ?_
        refine XS.passR ?_
        obtain rfl : (-1 : Int) = r := Option.some.inj h
        exact XS.fin [] ((True) ∧ (True)) (by kernel_rfl) ⟨trivial, trivial⟩
      · refine TS.cond (decide (x < y)) ?_ (fun hcz => by rw [c10] at hcz; cases hcz) (fun hcz => ?_)
        · kernel_rfl
        refine TS.skip ?_
        refine XS.then ?_
        refine TS.seq ?_
        refine TS.seq ?_
        have hq : (True) ∧ ((True) ∧ ((True) ∧ (True))) := ⟨trivial, ⟨trivial, ⟨trivial, trivial⟩⟩⟩
        refine TS.reg [] ?_ ?_
        · apply prop_of ?_ hq
          kernel_rfl
        refine XS.then ?_
        rcases bif_some h with ⟨c11, h⟩ | ⟨c12, h⟩
        · refine TS.cond (decide (x > y)) ?_ (fun hcz => ?_) (fun hcz => by rw [c11] at hcz; cases hcz)
          · kernel_rfl
          refine TS.seq ?_
          have hq : (True) ∧ (True) := ⟨trivial, trivial⟩
          refine TS.reg [] ?_ ?_
          · apply prop_of ?_ hq
            kernel_rfl
          refine XS.then ?_
          refine TS.ret ?_
          refine XS.passR ?_
          obtain rfl : (1 : Int) = r := Option.some.inj h
          exact XS.fin [] ((True) ∧ (True)) (by kernel_rfl) ⟨trivial, trivial⟩
        · refine TS.cond (decide (x > y)) ?_ (fun hcz => by rw [c12] at hcz; cases hcz) (fun hcz => ?_)
          · kernel_rfl
          refine TS.skip ?_
          refine XS.then ?_
          refine TS.seq ?_
          have hq : (True) ∧ (True) := ⟨trivial, trivial⟩
          refine TS.reg [] ?_ ?_
          · apply prop_of ?_ hq
            kernel_rfl
          refine XS.then ?_
          refine TS.ret ?_
          obtain rfl : (0 : Int) = r := Option.some.inj h
          exact XS.fin [] ((True) ∧ (True)) (by kernel_rfl) ⟨trivial, trivial⟩

/-! plugtree/route.Order -/
def F72 (n : Nat) (a : List Int) (b : List Int) : Option Int := ((F142 n a b).bind fun y_2 => (bif (decide (y_2 < ((a.length : Nat) : Int))) then (bif (decide (y_2 < ((b.length : Nat) : Int))) then (bif inb y_2 a.length then (bif inb y_2 b.length then ((F143 n (a.getD y_2.toNat (0 : Int)) (b.getD y_2.toNat (0 : Int))).bind fun y_3 => (some y_3)) else none) else none) else ((F143 n ((a.length : Nat) : Int) ((b.length : Nat) : Int)).bind fun y_4 => (some y_4))) else ((F143 n ((a.length : Nat) : Int) ((b.length : Nat) : Int)).bind fun y_5 => (some y_5))))
theorem F72_ok (n : Nat) (a : List Int) (b : List Int) (r : Int) (h : F72 n a b = some r) : PureC Try.prog 72 [(.sl (.int .i64) a), (.sl (.int .i64) b)] (.int .i64 r) [] := by
  refine PureC.mkS Try.func72 rfl rfl ?_
  intro w0 fz0 hfz
  replace h : ((F142 n a b).bind fun y_2 => (bif (decide (y_2 < ((a.length : Nat) : Int))) then (bif (decide (y_2 < ((b.length : Nat) : Int))) then (bif inb y_2 a.length then (bif inb y_2 b.length then ((F143 n (a.getD y_2.toNat (0 : Int)) (b.getD y_2.toNat (0 : Int))).bind fun y_3 => (some y_3)) else none) else none) else ((F143 n ((a.length : Nat) : Int) ((b.length : Nat) : Int)).bind fun y_4 => (some y_4))) else ((F143 n ((a.length : Nat) : Int) ((b.length : Nat) : Int)).bind fun y_5 => (some y_5)))) = some r := h
  refine TS.seq ?_
  have hq : (True) ∧ (True) := ⟨trivial, trivial⟩
  refine TS.reg [] ?_ ?_
  · apply prop_of ?_ hq
    kernel_rfl
  refine XS.then ?_
  refine TS.seq ?_
  obtain ⟨y_2, hx1, h⟩ := bind_some' h
  have hq : (True) ∧ ((True) ∧ ((PureC Try.prog 142 [(.sl (.int .i64) a), (.sl (.int .i64) b)] (.int .i64 y_2) []) ∧ ((True) ∧ (True)))) := ⟨trivial, ⟨trivial, ⟨F142_ok n a b y_2 hx1, ⟨trivial, trivial⟩⟩⟩⟩
  refine TS.reg [.none, .none, (.call (.int .i64 y_2) [])] ?_ ?_
  · apply prop_of ?_ hq
    kernel_rfl
  refine XS.then ?_
  refine TS.seq ?_
  refine TS.seq ?_
  rcases bif_some h with ⟨c2, h⟩ | ⟨c3, h⟩
  · have hq : (True) ∧ ((True) ∧ ((True) ∧ ((True) ∧ (((True) ∧ (decide (y_2 < ((a.length : Nat) : Int))) = true) ∧ ((True) ∧ ((True) ∧ ((True) ∧ ((True) ∧ ((True) ∧ (True)))))))))) := ⟨trivial, ⟨trivial, ⟨trivial, ⟨trivial, ⟨⟨trivial, c2⟩, ⟨trivial, ⟨trivial, ⟨trivial, ⟨trivial, ⟨trivial, trivial⟩⟩⟩⟩⟩⟩⟩⟩⟩⟩
    refine TS.reg [.none, .none, .none, .none, .dec true] ?_ ?_
    · apply prop_of ?_ hq
      kernel_rfl
    refine XS.then ?_
    rcases bif_some h with ⟨c4, h⟩ | ⟨c5, h⟩
    · refine TS.cond (decide (y_2 < ((b.length : Nat) : Int))) ?_ (fun hcz => ?_) (fun hcz => by rw [c4] at hcz; cases hcz)
      · kernel_rfl
      refine TS.seq ?_
      obtain ⟨t6, h⟩ := test_some h
      obtain ⟨t7, h⟩ := test_some h
      obtain ⟨y_3, hx8, h⟩ := bind_some' h
      have hq : ((True) ∧ ((True) ∧ ((inR y_2 a.length) ∧ ((True) ∧ ((True) ∧ ((True) ∧ ((inR y_2 b.length) ∧ ((True) ∧ ((PureC Try.prog 143 [(.int .i64 (a.getD y_2.toNat (0 : Int))), (.int .i64 (b.getD y_2.toNat (0 : Int)))] (.int .i64 y_3) []) ∧ (True)))))))))) ∧ ((True) ∧ (True)) := ⟨⟨trivial, ⟨trivial, ⟨inb_ok t6, ⟨trivial, ⟨trivial, ⟨trivial, ⟨inb_ok t7, ⟨trivial, ⟨F143_ok n (a.getD y_2.toNat (0 : Int)) (b.getD y_2.toNat (0 : Int)) y_3 hx8, trivial⟩⟩⟩⟩⟩⟩⟩⟩⟩, ⟨trivial, trivial⟩⟩
      refine TS.draw 9 [] [.none, .none, .none, .none, .none, .none, .none, .none, (.call (.int .i64 y_3) [])] (by kernel_rfl) ?_ ?_
      · apply prop_of ?_ hq
        kernel_rfl
      refine XS.then ?_
      refine TS.ret ?_
      refine XS.passR ?_
      obtain rfl : y_3 = r := Option.some.inj h
      exact XS.fin [] ((True) ∧ (True)) (by kernel_rfl) ⟨trivial, trivial⟩
    · refine TS.cond (decide (y_2 < ((b.length : Nat) : Int))) ?_ (fun hcz => by rw [c5] at hcz; cases hcz) (fun hcz => ?_)
      · kernel_rfl
      refine TS.skip ?_
      refine XS.then ?_
      refine TS.seq ?_
      obtain ⟨y_4, hx9, h⟩ := bind_some' h
      have hq : (True) ∧ ((True) ∧ ((True) ∧ ((True) ∧ ((PureC Try.prog 143 [(.int .i64 ((a.length : Nat) : Int)), (.int .i64 ((b.length : Nat) : Int))] (.int .i64 y_4) []) ∧ ((True) ∧ (True)))))) := ⟨trivial, ⟨trivial, ⟨trivial, ⟨trivial, ⟨F143_ok n ((a.length : Nat) : Int) ((b.length : Nat) : Int) y_4 hx9, ⟨trivial, trivial⟩⟩⟩⟩⟩⟩
      refine TS.reg [.none, .none, .none, .none, (.call (.int .i64 y_4) [])] ?_ ?_
      · apply prop_of ?_ hq
        kernel_rfl
      refine XS.then ?_
      refine TS.ret ?_
      obtain rfl : y_4 = r := Option.some.inj h
      exact XS.fin [] ((True) ∧ (True)) (by kernel_rfl) ⟨trivial, trivial⟩
  · have hq : (True) ∧ ((True) ∧ ((True) ∧ ((True) ∧ (((True) ∧ (decide (y_2 < ((a.length : Nat) : Int))) = false) ∧ ((True) ∧ (True)))))) := ⟨trivial, ⟨trivial, ⟨trivial, ⟨trivial, ⟨⟨trivial, c3⟩, ⟨trivial, trivial⟩⟩⟩⟩⟩⟩
    refine TS.reg [.none, .none, .none, .none, .dec false] ?_ ?_
    · apply prop_of ?_ hq
      kernel_rfl
    refine XS.then ?_
    refine TS.no ?_ ?_
    · kernel_rfl
    refine TS.skip ?_
    refine XS.then ?_
    refine TS.seq ?_
    obtain ⟨y_5, hx10, h⟩ := bind_some' h
    have hq : (True) ∧ ((True) ∧ ((True) ∧ ((True) ∧ ((PureC Try.prog 143 [(.int .i64 ((a.length : Nat) : Int)), (.int .i64 ((b.length : Nat) : Int))] (.int .i64 y_5) []) ∧ ((True) ∧ (True)))))) := ⟨trivial, ⟨trivial, ⟨trivial, ⟨trivial, ⟨F143_ok n ((a.length : Nat) : Int) ((b.length : Nat) : Int) y_5 hx10, ⟨trivial, trivial⟩⟩⟩⟩⟩⟩
    refine TS.reg [.none, .none, .none, .none, (.call (.int .i64 y_5) [])] ?_ ?_
    · apply prop_of ?_ hq
      kernel_rfl
    refine XS.then ?_
    refine TS.ret ?_
    obtain rfl : y_5 = r := Option.some.inj h
    exact XS.fin [] ((True) ∧ (True)) (by kernel_rfl) ⟨trivial, trivial⟩

/-! plugtree/topo.fits$1 -/
def F145 (n : Nat) (h_Path : List Int) (h_Kind : Int) (h_Ports : Int) (h_Serial : Int) (x : Int) (vPath : List Int) (vKind : Int) (vPorts : Int) (vSerial : Int) (x_2 : Int) : Option Bool := (bif (h_Kind == (1 : Int)) then (bif (decide (h_Ports ≥ x)) then (bif subB vPath.length none (some x_2) then ((F70 n h_Path (vPath.take x_2.toNat)).bind fun y_2 => (some y_2)) else none) else (some false)) else (some false))
theorem F145_ok (n : Nat) (h_Path : List Int) (h_Kind : Int) (h_Ports : Int) (h_Serial : Int) (x : Int) (vPath : List Int) (vKind : Int) (vPorts : Int) (vSerial : Int) (x_2 : Int) (r : Bool) (h : F145 n h_Path h_Kind h_Ports h_Serial x vPath vKind vPorts vSerial x_2 = some r) : PureC Try.prog 145 [(.st (.cons (.sl (.int .i64) h_Path) (.cons (.int .i64 h_Kind) (.cons (.int .i64 h_Ports) (.int .i64 h_Serial))))), (.pv (.int .i64 x)), (.pv (.st (.cons (.sl (.int .i64) vPath) (.cons (.int .i64 vKind) (.cons (.int .i64 vPorts) (.int .i64 vSerial)))))), (.pv (.int .i64 x_2))] (.bool r) [] := by
  refine PureC.mkS Try.func145 rfl rfl ?_
  intro w0 fz0 hfz
  replace h : (bif (h_Kind == (1 : Int)) then (bif (decide (h_Ports ≥ x)) then (bif subB vPath.length none (some x_2) then ((F70 n h_Path (vPath.take x_2.toNat)).bind fun y_2 => (some y_2)) else none) else (some false)) else (some false)) = some r := h
  refine TS.seq ?_
  have hq : (True) ∧ ((True) ∧ (True)) := ⟨trivial, ⟨trivial, trivial⟩⟩
  refine TS.reg [] ?_ ?_
  · apply prop_of ?_ hq
    kernel_rfl
  refine XS.then ?_
  refine TS.seq ?_
  rcases bif_some h with ⟨c1, h⟩ | ⟨c2, h⟩
  · rcases bif_some h with ⟨c3, h⟩ | ⟨c4, h⟩
    · obtain ⟨t5, h⟩ := test_some h
      obtain ⟨y_2, hx6, h⟩ := bind_some' h
      have hq : ((True) ∧ ((True) ∧ ((True) ∧ (((True) ∧ (h_Kind == (1 : Int)) = true) ∧ ((True) ∧ ((True) ∧ ((True) ∧ ((True) ∧ ((True) ∧ (((True) ∧ (decide (h_Ports ≥ x)) = true) ∧ ((True) ∧ ((True) ∧ ((True) ∧ ((True) ∧ ((True) ∧ ((subC vPath.length none (some x_2)) ∧ ((PureC Try.prog 70 [(.sl (.int .i64) h_Path), (.sl (.int .i64) (vPath.take x_2.toNat))] (.bool y_2) []) ∧ ((True) ∧ (True))))))))))))))))))) ∧ ((True) ∧ (True)) := ⟨⟨trivial, ⟨trivial, ⟨trivial, ⟨⟨trivial, c1⟩, ⟨trivial, ⟨trivial, ⟨trivial, ⟨trivial, ⟨trivial, ⟨⟨trivial, c3⟩, ⟨trivial, ⟨trivial, ⟨trivial, ⟨trivial, ⟨trivial, ⟨subB_ok t5, ⟨F70_ok n h_Path (vPath.take x_2.toNat) y_2 hx6, ⟨trivial, trivial⟩⟩⟩⟩⟩⟩⟩⟩⟩⟩⟩⟩⟩⟩⟩⟩⟩⟩, ⟨trivial, trivial⟩⟩
      refine TS.draw 18 [] [.none, .none, .none, .dec true, .none, .none, .none, .none, .none, .dec true, .none, .none, .none, .none, .none, .none, (.call (.bool y_2) [])] (by kernel_rfl) ?_ ?_
      · apply prop_of ?_ hq
        kernel_rfl
      refine XS.then ?_
      refine TS.ret ?_
      obtain rfl : y_2 = r := Option.some.inj h
      exact XS.fin [] ((True) ∧ (True)) (by kernel_rfl) ⟨trivial, trivial⟩
    · have hq : ((True) ∧ ((True) ∧ ((True) ∧ (((True) ∧ (h_Kind == (1 : Int)) = true) ∧ ((True) ∧ ((True) ∧ ((True) ∧ ((True) ∧ ((True) ∧ (((True) ∧ (decide (h_Ports ≥ x)) = false) ∧ ((True) ∧ (True)))))))))))) ∧ ((True) ∧ (True)) := ⟨⟨trivial, ⟨trivial, ⟨trivial, ⟨⟨trivial, c1⟩, ⟨trivial, ⟨trivial, ⟨trivial, ⟨trivial, ⟨trivial, ⟨⟨trivial, c4⟩, ⟨trivial, trivial⟩⟩⟩⟩⟩⟩⟩⟩⟩⟩⟩, ⟨trivial, trivial⟩⟩
      refine TS.draw 18 [] [.none, .none, .none, .dec true, .none, .none, .none, .none, .none, .dec false] (by kernel_rfl) ?_ ?_
      · apply prop_of ?_ hq
        kernel_rfl
      refine XS.then ?_
      refine TS.ret ?_
      obtain rfl : false = r := Option.some.inj h
      exact XS.fin [] ((True) ∧ (True)) (by kernel_rfl) ⟨trivial, trivial⟩
  · have hq : ((True) ∧ ((True) ∧ ((True) ∧ (((True) ∧ (h_Kind == (1 : Int)) = false) ∧ ((True) ∧ ((True) ∧ ((True) ∧ (True)))))))) ∧ ((True) ∧ (True)) := ⟨⟨trivial, ⟨trivial, ⟨trivial, ⟨⟨trivial, c2⟩, ⟨trivial, ⟨trivial, ⟨trivial, trivial⟩⟩⟩⟩⟩⟩⟩, ⟨trivial, trivial⟩⟩
    refine TS.draw 18 [] [.none, .none, .none, .dec false] (by kernel_rfl) ?_ ?_
    · apply prop_of ?_ hq
      kernel_rfl
    refine XS.then ?_
    refine TS.ret ?_
    obtain rfl : false = r := Option.some.inj h
    exact XS.fin [] ((True) ∧ (True)) (by kernel_rfl) ⟨trivial, trivial⟩

/-! plugtree/topo.fits -/
def F73_l8 (n : Nat) (tree : List ((List Int) × Int × Int × Int)) (n_Path : List Int) (n_Kind : Int) (n_Ports : Int) (n_Serial : Int) (k73_8 : Int → Option Bool) : Int → Option Bool
  | x => (bif (decide (x < ((tree.length : Nat) : Int))) then (bif inb x tree.length then ((F145 n ((tree.getD x.toNat (([] : List Int), ((0 : Int), ((0 : Int), (0 : Int))))).1) ((tree.getD x.toNat (([] : List Int), ((0 : Int), ((0 : Int), (0 : Int))))).2.1) ((tree.getD x.toNat (([] : List Int), ((0 : Int), ((0 : Int), (0 : Int))))).2.2.1) ((tree.getD x.toNat (([] : List Int), ((0 : Int), ((0 : Int), (0 : Int))))).2.2.2) (n_Path.getD ((IntKind.wrap .i64 (((n_Path.length : Nat) : Int) - (1 : Int))).toNat) (0 : Int)) n_Path n_Kind n_Ports n_Serial (IntKind.wrap .i64 (((n_Path.length : Nat) : Int) - (1 : Int)))).bind fun y_2 => (bif y_2 then (some (decide (x ≥ (0 : Int)))) else (k73_8 (IntKind.wrap .i64 (x + (1 : Int)))))) else none) else (some false))
def F73 (n : Nat) (tree : List ((List Int) × Int × Int × Int)) (n_Path : List Int) (n_Kind : Int) (n_Ports : Int) (n_Serial : Int) : Option Bool := (bif inb (IntKind.wrap .i64 (((n_Path.length : Nat) : Int) - (1 : Int))) n_Path.length then (bif ((IntKind.wrap .i64 (((n_Path.length : Nat) : Int) - (1 : Int))) == (0 : Int)) then (some (decide ((n_Path.getD ((IntKind.wrap .i64 (((n_Path.length : Nat) : Int) - (1 : Int))).toNat) (0 : Int)) ≤ (4 : Int)))) else (loopF (F73_l8 n tree n_Path n_Kind n_Ports n_Serial) n (0 : Int))) else none)
theorem F73_ok (n : Nat) (tree : List ((List Int) × Int × Int × Int)) (n_Path : List Int) (n_Kind : Int) (n_Ports : Int) (n_Serial : Int) (r : Bool) (h : F73 n tree n_Path n_Kind n_Ports n_Serial = some r) : PureC Try.prog 73 [(.sl (.st (.pair (.sl (.int .i64)) (.pair (.int .i64) (.pair (.int .i64) (.int .i64))))) tree), (.st (.cons (.sl (.int .i64) n_Path) (.cons (.int .i64 n_Kind) (.cons (.int .i64 n_Ports) (.int .i64 n_Serial)))))] (.bool r) [] := by
  refine PureC.mkS Try.func73 rfl rfl ?_
  intro w0 fz0 hfz
  replace h : (bif inb (IntKind.wrap .i64 (((n_Path.length : Nat) : Int) - (1 : Int))) n_Path.length then (bif ((IntKind.wrap .i64 (((n_Path.length : Nat) : Int) - (1 : Int))) == (0 : Int)) then (some (decide ((n_Path.getD ((IntKind.wrap .i64 (((n_Path.length : Nat) : Int) - (1 : Int))).toNat) (0 : Int)) ≤ (4 : Int)))) else (loopF (F73_l8 n tree n_Path n_Kind n_Ports n_Serial) n (0 : Int))) else none) = some r := h
  refine TS.seq ?_
  have hq : (True) ∧ ((True) ∧ (True)) := ⟨trivial, ⟨trivial, trivial⟩⟩
  refine TS.reg [] ?_ ?_
  · apply prop_of ?_ hq
    kernel_rfl
  refine XS.then ?_
  refine TS.seq ?_
  have hq : (True) ∧ ((True) ∧ ((True) ∧ ((True) ∧ ((True) ∧ ((True) ∧ (True)))))) := ⟨trivial, ⟨trivial, ⟨trivial, ⟨trivial, ⟨trivial, ⟨trivial, trivial⟩⟩⟩⟩⟩⟩
  refine TS.reg [] ?_ ?_
  · apply prop_of ?_ hq
    kernel_rfl
  refine XS.then ?_
  refine TS.seq ?_
  obtain ⟨t1, h⟩ := test_some h
  have hq : (True) ∧ ((True) ∧ ((True) ∧ ((inR (IntKind.wrap .i64 (((n_Path.length : Nat) : Int) - (1 : Int))) n_Path.length) ∧ ((True) ∧ ((True) ∧ ((True) ∧ (True))))))) := ⟨trivial, ⟨trivial, ⟨trivial, ⟨inb_ok t1, ⟨trivial, ⟨trivial, ⟨trivial, trivial⟩⟩⟩⟩⟩⟩⟩
  refine TS.reg [] ?_ ?_
  · apply prop_of ?_ hq
    kernel_rfl
  refine XS.then ?_
  refine TS.seq ?_
  refine TS.seq ?_
  have hq : (True) ∧ ((True) ∧ (True)) := ⟨trivial, ⟨trivial, trivial⟩⟩
  refine TS.reg [] ?_ ?_
  · apply prop_of ?_ hq
    kernel_rfl
  refine XS.then ?_
  rcases bif_some h with ⟨c2, h⟩ | ⟨c3, h⟩
  · refine TS.cond ((IntKind.wrap .i64 (((n_Path.length : Nat) : Int) - (1 : Int))) == (0 : Int)) ?_ (fun hcz => ?_) (fun hcz => by rw [c2] at hcz; cases hcz)
    · kernel_rfl
    refine TS.seq ?_
    have hq : (True) ∧ ((True) ∧ ((True) ∧ (True))) := ⟨trivial, ⟨trivial, ⟨trivial, trivial⟩⟩⟩
    refine TS.reg [] ?_ ?_
    · apply prop_of ?_ hq
      kernel_rfl
    refine XS.then ?_
    refine TS.ret ?_
    refine XS.passR ?_
    obtain rfl : (decide ((n_Path.getD ((IntKind.wrap .i64 (((n_Path.length : Nat) : Int) - (1 : Int))).toNat) (0 : Int)) ≤ (4 : Int))) = r := Option.some.inj h
    exact XS.fin [] ((True) ∧ (True)) (by kernel_rfl) ⟨trivial, trivial⟩
  · refine TS.cond ((IntKind.wrap .i64 (((n_Path.length : Nat) : Int) - (1 : Int))) == (0 : Int)) ?_ (fun hcz => by rw [c3] at hcz; cases hcz) (fun hcz => ?_)
    · kernel_rfl
    refine TS.skip ?_
    refine XS.then ?_
    refine TS.seq ?_
    refine TS.opsOf ?_
    have hq : (True) ∧ ((True) ∧ (True)) := ⟨trivial, ⟨trivial, trivial⟩⟩
    refine TOS.run 2 [] (by kernel_rfl) ?_ ?_
    · apply prop_of ?_ hq
      kernel_rfl
    refine TOS.call 144 (mkMask 23 [4]) Try.func144 rfl ?_
    intro fv4
    refine ⟨(mkTs 9 [(0, (.sl (.st (.pair (.sl (.int .i64)) (.pair (.int .i64) (.pair (.int .i64) (.int .i64))))) tree)), (1, (.fn 145 (.cons (.ptr 2 []) (.cons (.ptr 0 []) (.cons (.ptr 1 []) .nil)))))], [(.box 45 (.st (.cons (.sl (.int .i64) n_Path) (.cons (.int .i64 n_Kind) (.cons (.int .i64 n_Ports) (.int .i64 n_Serial)))))), (.box 3 (.int .i64 (IntKind.wrap .i64 (((n_Path.length : Nat) : Int) - (1 : Int))))), (.box 3 (.int .i64 (n_Path.getD ((IntKind.wrap .i64 (((n_Path.length : Nat) : Int) - (1 : Int))).toNat) (0 : Int)))), (.sav (mkTs 23 [(4, (.bool false))]) fv4)]), by kernel_rfl, ?_⟩
    refine TS.seq ?_
    have hq : (True) ∧ (True) := ⟨trivial, trivial⟩
    refine TS.reg [] ?_ ?_
    · apply prop_of ?_ hq
      kernel_rfl
    refine XS.then ?_
    refine TS.seq ?_
    refine TS.opsOf ?_
    have hq : (True) ∧ ((True) ∧ (True)) := ⟨trivial, ⟨trivial, trivial⟩⟩
    refine TOS.run 2 [] (by kernel_rfl) ?_ ?_
    · apply prop_of ?_ hq
      kernel_rfl
    refine TOS.call 68 (mkMask 9 [4]) Try.func68 rfl ?_
    intro fv6
    refine ⟨(mkTs 19 [(0, (.sl (.st (.pair (.sl (.int .i64)) (.pair (.int .i64) (.pair (.int .i64) (.int .i64))))) tree)), (1, (.fn 145 (.cons (.ptr 2 []) (.cons (.ptr 0 []) (.cons (.ptr 1 []) .nil)))))], [(.box 45 (.st (.cons (.sl (.int .i64) n_Path) (.cons (.int .i64 n_Kind) (.cons (.int .i64 n_Ports) (.int .i64 n_Serial)))))), (.box 3 (.int .i64 (IntKind.wrap .i64 (((n_Path.length : Nat) : Int) - (1 : Int))))), (.box 3 (.int .i64 (n_Path.getD ((IntKind.wrap .i64 (((n_Path.length : Nat) : Int) - (1 : Int))).toNat) (0 : Int)))), (.sav (mkTs 23 [(4, (.bool false))]) fv4), (.sav (mkTs 9 [(4, (.bool false))]) fv6)]), by kernel_rfl, ?_⟩
    refine TS.seq ?_
    have hq : (True) ∧ (True) := ⟨trivial, trivial⟩
    refine TS.reg [] ?_ ?_
    · apply prop_of ?_ hq
      kernel_rfl
    refine XS.then ?_
    refine TS.seq ?_
    refine TS.seq ?_
    have hq : (True) ∧ ((True) ∧ ((True) ∧ (True))) := ⟨trivial, ⟨trivial, ⟨trivial, trivial⟩⟩⟩
    refine TS.reg [] ?_ ?_
    · apply prop_of ?_ hq
      kernel_rfl
    refine XS.then ?_
    refine TS.block ?_
    refine TS.reLoop [3, 4, 2, 0, 1] (mkMask 19 [0, 1, 7, 8]) (D := Int) (fun d => match d with | x => (mkTs 19 [(0, (.sl (.st (.pair (.sl (.int .i64)) (.pair (.int .i64) (.pair (.int .i64) (.int .i64))))) tree)), (1, (.fn 145 (.cons (.ptr 2 []) (.cons (.ptr 3 []) (.cons (.ptr 4 []) .nil))))), (7, (.int .i64 ((tree.length : Nat) : Int))), (8, (.int .i64 x))], [(.sav (mkTs 23 [(4, (.bool false))]) fv4), (.sav (mkTs 9 [(4, (.bool false))]) fv6), (.box 3 (.int .i64 (n_Path.getD ((IntKind.wrap .i64 (((n_Path.length : Nat) : Int) - (1 : Int))).toNat) (0 : Int)))), (.box 45 (.st (.cons (.sl (.int .i64) n_Path) (.cons (.int .i64 n_Kind) (.cons (.int .i64 n_Ports) (.int .i64 n_Serial)))))), (.box 3 (.int .i64 (IntKind.wrap .i64 (((n_Path.length : Nat) : Int) - (1 : Int)))))])) (fun n' d => loopF (F73_l8 n tree n_Path n_Kind n_Ports n_Serial) n' d = some r) n (0 : Int) h ?_ (fun d => loopF_zero _ d r) ?_
    · kernel_rfl
    · rintro n8 x h
      replace h : (bif (decide (x < ((tree.length : Nat) : Int))) then (bif inb x tree.length then ((F145 n ((tree.getD x.toNat (([] : List Int), ((0 : Int), ((0 : Int), (0 : Int))))).1) ((tree.getD x.toNat (([] : List Int), ((0 : Int), ((0 : Int), (0 : Int))))).2.1) ((tree.getD x.toNat (([] : List Int), ((0 : Int), ((0 : Int), (0 : Int))))).2.2.1) ((tree.getD x.toNat (([] : List Int), ((0 : Int), ((0 : Int), (0 : Int))))).2.2.2) (n_Path.getD ((IntKind.wrap .i64 (((n_Path.length : Nat) : Int) - (1 : Int))).toNat) (0 : Int)) n_Path n_Kind n_Ports n_Serial (IntKind.wrap .i64 (((n_Path.length : Nat) : Int) - (1 : Int)))).bind fun y_2 => (bif y_2 then (some (decide (x ≥ (0 : Int)))) else ((loopF (F73_l8 n tree n_Path n_Kind n_Ports n_Serial) n8) (IntKind.wrap .i64 (x + (1 : Int)))))) else none) else (some false)) = some r := h
      refine TS.seq ?_
      have hq : (True) ∧ (True) := ⟨trivial, trivial⟩
      refine TS.reg [] ?_ ?_
      · apply prop_of ?_ hq
        kernel_rfl
      refine XS.then ?_
      refine TS.seq ?_
      rcases bif_some h with ⟨c4, h⟩ | ⟨c5, h⟩
      · refine TS.cond (decide (x < ((tree.length : Nat) : Int))) ?_ (fun hcz => ?_) (fun hcz => by rw [c4] at hcz; cases hcz)
        · kernel_rfl
        refine TS.skip ?_
        refine XS.then ?_
        refine TS.seq ?_
        refine TS.block ?_
        refine TS.seq ?_
        have hq : (True) ∧ ((True) ∧ (True)) := ⟨trivial, ⟨trivial, trivial⟩⟩
        refine TS.reg [] ?_ ?_
        · apply prop_of ?_ hq
          kernel_rfl
        refine XS.then ?_
        refine TS.seq ?_
        obtain ⟨t6, h⟩ := test_some h
        obtain ⟨y_2, hx7, h⟩ := bind_some' h
        have hq : (True) ∧ ((True) ∧ ((True) ∧ ((inR x tree.length) ∧ ((True) ∧ (((((True) ∧ ((True) ∧ ((True) ∧ (True)))) ∧ ((True) ∧ ((True) ∧ ((True) ∧ (True))))) ∧ PureC Try.prog 145 [(.st (.cons (.sl (.int .i64) (tree.getD x.toNat (([] : List Int), ((0 : Int), ((0 : Int), (0 : Int))))).1) (.cons (.int .i64 (tree.getD x.toNat (([] : List Int), ((0 : Int), ((0 : Int), (0 : Int))))).2.1) (.cons (.int .i64 (tree.getD x.toNat (([] : List Int), ((0 : Int), ((0 : Int), (0 : Int))))).2.2.1) (.int .i64 (tree.getD x.toNat (([] : List Int), ((0 : Int), ((0 : Int), (0 : Int))))).2.2.2))))), (.pv (.int .i64 (n_Path.getD ((IntKind.wrap .i64 (((n_Path.length : Nat) : Int) - (1 : Int))).toNat) (0 : Int)))), (.pv (.st (.cons (.sl (.int .i64) n_Path) (.cons (.int .i64 n_Kind) (.cons (.int .i64 n_Ports) (.int .i64 n_Serial)))))), (.pv (.int .i64 (IntKind.wrap .i64 (((n_Path.length : Nat) : Int) - (1 : Int)))))] (.bool y_2) []) ∧ (True)))))) := ⟨trivial, ⟨trivial, ⟨trivial, ⟨inb_ok t6, ⟨trivial, ⟨⟨⟨⟨trivial, ⟨trivial, ⟨trivial, trivial⟩⟩⟩, ⟨trivial, ⟨trivial, ⟨trivial, trivial⟩⟩⟩⟩, F145_ok n ((tree.getD x.toNat (([] : List Int), ((0 : Int), ((0 : Int), (0 : Int))))).1) ((tree.getD x.toNat (([] : List Int), ((0 : Int), ((0 : Int), (0 : Int))))).2.1) ((tree.getD x.toNat (([] : List Int), ((0 : Int), ((0 : Int), (0 : Int))))).2.2.1) ((tree.getD x.toNat (([] : List Int), ((0 : Int), ((0 : Int), (0 : Int))))).2.2.2) (n_Path.getD ((IntKind.wrap .i64 (((n_Path.length : Nat) : Int) - (1 : Int))).toNat) (0 : Int)) n_Path n_Kind n_Ports n_Serial (IntKind.wrap .i64 (((n_Path.length : Nat) : Int) - (1 : Int))) y_2 hx7⟩, trivial⟩⟩⟩⟩⟩⟩
        refine TS.reg [.none, .none, .none, .none, .none, (.call (.bool y_2) [])] ?_ ?_
        · apply prop_of ?_ hq
          kernel_rfl
        refine XS.then ?_
        rcases bif_some h with ⟨c8, h⟩ | ⟨c9, h⟩
        · refine TS.cond y_2 ?_ (fun hcz => ?_) (fun hcz => by rw [c8] at hcz; cases hcz)
          · kernel_rfl
          refine TS.seq ?_
          have hq : (True) ∧ ((True) ∧ (True)) := ⟨trivial, ⟨trivial, trivial⟩⟩
          refine TS.reg [] ?_ ?_
          · apply prop_of ?_ hq
            kernel_rfl
          refine XS.then ?_
          refine TS.ret ?_
          refine XS.blockRet ?_
          refine XS.passR ?_
          refine XS.passR ?_
          refine XS.blockRet ?_
          refine XS.passR ?_
          refine XS.backR 1 (mkTs 9 [(4, (.bool false))]) (mkTs 9 [(4, (.bool false)), (7, (.int .i64 x))], [(.sav (mkTs 23 [(4, (.bool false))]) fv4), .dead, (.box 3 (.int .i64 (n_Path.getD ((IntKind.wrap .i64 (((n_Path.length : Nat) : Int) - (1 : Int))).toNat) (0 : Int)))), (.box 45 (.st (.cons (.sl (.int .i64) n_Path) (.cons (.int .i64 n_Kind) (.cons (.int .i64 n_Ports) (.int .i64 n_Serial)))))), (.box 3 (.int .i64 (IntKind.wrap .i64 (((n_Path.length : Nat) : Int) - (1 : Int)))))]) ((True) ∧ (True)) (by kernel_rfl) (by kernel_rfl) ⟨trivial, trivial⟩ ?_
          refine KS.opsOf ?_
          have hq : (True) ∧ ((True) ∧ (True)) := ⟨trivial, ⟨trivial, trivial⟩⟩
          refine TOS.run 2 [] (by kernel_rfl) ?_ ?_
          · apply prop_of ?_ hq
            kernel_rfl
          refine TOS.nil (by kernel_rfl) ?_
          refine XS.then ?_
          refine TS.ret ?_
          refine XS.backR 0 (mkTs 23 [(4, (.bool false))]) (mkTs 23 [(4, (.bool false)), (22, (.bool (decide (x ≥ (0 : Int)))))], [.dead, .dead, (.box 3 (.int .i64 (n_Path.getD ((IntKind.wrap .i64 (((n_Path.length : Nat) : Int) - (1 : Int))).toNat) (0 : Int)))), (.box 45 (.st (.cons (.sl (.int .i64) n_Path) (.cons (.int .i64 n_Kind) (.cons (.int .i64 n_Ports) (.int .i64 n_Serial)))))), (.box 3 (.int .i64 (IntKind.wrap .i64 (((n_Path.length : Nat) : Int) - (1 : Int)))))]) ((True) ∧ (True)) (by kernel_rfl) (by kernel_rfl) ⟨trivial, trivial⟩ ?_
          refine KS.opsOf ?_
          have hq : (True) ∧ (True) := ⟨trivial, trivial⟩
          refine TOS.run 1 [] (by kernel_rfl) ?_ ?_
          · apply prop_of ?_ hq
            kernel_rfl
          refine TOS.nil (by kernel_rfl) ?_
          refine XS.then ?_
          refine TS.ret ?_
          obtain rfl : (decide (x ≥ (0 : Int))) = r := Option.some.inj h
          exact XS.fin [] ((True) ∧ (True)) (by kernel_rfl) ⟨trivial, trivial⟩
        · refine TS.cond y_2 ?_ (fun hcz => by rw [c9] at hcz; cases hcz) (fun hcz => ?_)
          · kernel_rfl
          refine TS.skip ?_
          refine XS.blockEnd ?_
          refine XS.then ?_
          have hq : (True) ∧ ((True) ∧ (True)) := ⟨trivial, ⟨trivial, trivial⟩⟩
          refine TS.reg [] ?_ ?_
          · apply prop_of ?_ hq
            kernel_rfl
          refine XS.reAny [0, 1, 2, 3, 4] (mkMask 19 [0, 1, 7, 8]) (IntKind.wrap .i64 (x + (1 : Int))) h ?_
          kernel_rfl
      · refine TS.cond (decide (x < ((tree.length : Nat) : Int))) ?_ (fun hcz => by rw [c5] at hcz; cases hcz) (fun hcz => ?_)
        · kernel_rfl
        refine TS.exit ?_
        refine XS.passE ?_
        refine XS.passE ?_
        refine XS.out ?_
        refine XS.then ?_
        refine TS.seq ?_
        have hq : (True) ∧ (True) := ⟨trivial, trivial⟩
        refine TS.reg [] ?_ ?_
        · apply prop_of ?_ hq
          kernel_rfl
        refine XS.then ?_
        refine TS.ret ?_
        refine XS.backR 1 (mkTs 9 [(4, (.bool false))]) (mkTs 9 [(4, (.bool false)), (7, (.int .i64 (-1 : Int)))], [(.sav (mkTs 23 [(4, (.bool false))]) fv4), .dead, (.box 3 (.int .i64 (n_Path.getD ((IntKind.wrap .i64 (((n_Path.length : Nat) : Int) - (1 : Int))).toNat) (0 : Int)))), (.box 45 (.st (.cons (.sl (.int .i64) n_Path) (.cons (.int .i64 n_Kind) (.cons (.int .i64 n_Ports) (.int .i64 n_Serial)))))), (.box 3 (.int .i64 (IntKind.wrap .i64 (((n_Path.length : Nat) : Int) - (1 : Int)))))]) ((True) ∧ (True)) (by kernel_rfl) (by kernel_rfl) ⟨trivial, trivial⟩ ?_
        refine KS.opsOf ?_
        have hq : (True) ∧ ((True) ∧ (True)) := ⟨trivial, ⟨trivial, trivial⟩⟩
        refine TOS.run 2 [] (by kernel_rfl) ?_ ?_
        · apply prop_of ?_ hq
          kernel_rfl
        refine TOS.nil (by kernel_rfl) ?_
        refine XS.then ?_
        refine TS.ret ?_
        refine XS.backR 0 (mkTs 23 [(4, (.bool false))]) (mkTs 23 [(4, (.bool false)), (22, (.bool false))], [.dead, .dead, (.box 3 (.int .i64 (n_Path.getD ((IntKind.wrap .i64 (((n_Path.length : Nat) : Int) - (1 : Int))).toNat) (0 : Int)))), (.box 45 (.st (.cons (.sl (.int .i64) n_Path) (.cons (.int .i64 n_Kind) (.cons (.int .i64 n_Ports) (.int .i64 n_Serial)))))), (.box 3 (.int .i64 (IntKind.wrap .i64 (((n_Path.length : Nat) : Int) - (1 : Int)))))]) ((True) ∧ (True)) (by kernel_rfl) (by kernel_rfl) ⟨trivial, trivial⟩ ?_
        refine KS.opsOf ?_
        have hq : (True) ∧ (True) := ⟨trivial, trivial⟩
        refine TOS.run 1 [] (by kernel_rfl) ?_ ?_
        · apply prop_of ?_ hq
          kernel_rfl
        refine TOS.nil (by kernel_rfl) ?_
        refine XS.then ?_
        refine TS.ret ?_
        obtain rfl : false = r := Option.some.inj h
        exact XS.fin [] ((True) ∧ (True)) (by kernel_rfl) ⟨trivial, trivial⟩

/-! plugtree/topo.Check -/
def F24_l26 (n : Nat) (tree : List ((List Int) × Int × Int × Int)) (k24_26 : Int → Option Int) : Int → Option Int
  | x_2 => (bif (decide (x_2 < ((tree.length : Nat) : Int))) then (bif inb x_2 tree.length then ((F73 n tree ((tree.getD x_2.toNat (([] : List Int), ((0 : Int), ((0 : Int), (0 : Int))))).1) ((tree.getD x_2.toNat (([] : List Int), ((0 : Int), ((0 : Int), (0 : Int))))).2.1) ((tree.getD x_2.toNat (([] : List Int), ((0 : Int), ((0 : Int), (0 : Int))))).2.2.1) ((tree.getD x_2.toNat (([] : List Int), ((0 : Int), ((0 : Int), (0 : Int))))).2.2.2)).bind fun y_4 => (bif (!y_4) then (some (12 : Int)) else (k24_26 (IntKind.wrap .i64 (x_2 + (1 : Int)))))) else none) else (some (0 : Int)))
def F24_l25 (n : Nat) (tree : List ((List Int) × Int × Int × Int)) (k24_25 : Int → Option Int) : Int → Option Int
  | i => (bif (decide (i < ((tree.length : Nat) : Int))) then (bif inb (IntKind.wrap .i64 (i - (1 : Int))) tree.length then (bif inb i tree.length then ((F72 n ((tree.getD ((IntKind.wrap .i64 (i - (1 : Int))).toNat) (([] : List Int), ((0 : Int), ((0 : Int), (0 : Int))))).1) ((tree.getD i.toNat (([] : List Int), ((0 : Int), ((0 : Int), (0 : Int))))).1)).bind fun y_3 => (bif (decide (y_3 ≥ (0 : Int))) then (some (4 : Int)) else (k24_25 (IntKind.wrap .i64 (i + (1 : Int)))))) else none) else none) else (loopF (F24_l26 n tree) n (0 : Int)))
def F24_l22 (n : Nat) (tree : List ((List Int) × Int × Int × Int)) (k24_22 : Int → Option Int) : Int → Option Int
  | x => (bif (decide (x < ((tree.length : Nat) : Int))) then (bif inb x tree.length then ((F71 n ((tree.getD x.toNat (([] : List Int), ((0 : Int), ((0 : Int), (0 : Int))))).1) ((tree.getD x.toNat (([] : List Int), ((0 : Int), ((0 : Int), (0 : Int))))).2.1) ((tree.getD x.toNat (([] : List Int), ((0 : Int), ((0 : Int), (0 : Int))))).2.2.1) ((tree.getD x.toNat (([] : List Int), ((0 : Int), ((0 : Int), (0 : Int))))).2.2.2)).bind fun y_2 => (bif (!y_2) then (some (1 : Int)) else (k24_22 (IntKind.wrap .i64 (x + (1 : Int)))))) else none) else (loopF (F24_l25 n tree) n (1 : Int)))
def F24 (n : Nat) (tree : List ((List Int) × Int × Int × Int)) : Option Int := (bif (decide (((tree.length : Nat) : Int) > (40 : Int))) then (some (2 : Int)) else (loopF (F24_l22 n tree) n (0 : Int)))
theorem F24_ok (n : Nat) (tree : List ((List Int) × Int × Int × Int)) (r : Int) (h : F24 n tree = some r) : PureC Try.prog 24 [(.sl (.st (.pair (.sl (.int .i64)) (.pair (.int .i64) (.pair (.int .i64) (.int .i64))))) tree)] (.int .i64 r) [] := by
  refine PureC.mkS Try.func24 rfl rfl ?_
  intro w0 fz0 hfz
  replace h : (bif (decide (((tree.length : Nat) : Int) > (40 : Int))) then (some (2 : Int)) else (loopF (F24_l22 n tree) n (0 : Int))) = some r := h
  refine TS.seq ?_
  have hq : (True) ∧ (True) := ⟨trivial, trivial⟩
  refine TS.reg [] ?_ ?_
  · apply prop_of ?_ hq
    kernel_rfl
  refine XS.then ?_
  refine TS.seq ?_
  refine TS.seq ?_
  have hq : (True) ∧ ((True) ∧ ((True) ∧ (True))) := ⟨trivial, ⟨trivial, ⟨trivial, trivial⟩⟩⟩
  refine TS.reg [] ?_ ?_
  · apply prop_of ?_ hq
    kernel_rfl
  refine XS.then ?_
  rcases bif_some h with ⟨c1, h⟩ | ⟨c2, h⟩
  · refine TS.cond (decide (((tree.length : Nat) : Int) > (40 : Int))) ?_ (fun hcz => ?_) (fun hcz => by rw [c1] at hcz; cases hcz)
    · kernel_rfl
    refine TS.seq ?_
    have hq : (True) ∧ (True) := ⟨trivial, trivial⟩
    refine TS.reg [] ?_ ?_
    · apply prop_of ?_ hq
      kernel_rfl
    refine XS.then ?_
    refine TS.ret ?_
    refine XS.passR ?_
    obtain rfl : (2 : Int) = r := Option.some.inj h
    exact XS.fin [] ((True) ∧ (True)) (by kernel_rfl) ⟨trivial, trivial⟩
  · refine TS.cond (decide (((tree.length : Nat) : Int) > (40 : Int))) ?_ (fun hcz => by rw [c2] at hcz; cases hcz) (fun hcz => ?_)
    · kernel_rfl
    refine TS.skip ?_
    refine XS.then ?_
    refine TS.seq ?_
    refine TS.seq ?_
    have hq : (True) ∧ ((True) ∧ ((True) ∧ (True))) := ⟨trivial, ⟨trivial, ⟨trivial, trivial⟩⟩⟩
    refine TS.reg [] ?_ ?_
    · apply prop_of ?_ hq
      kernel_rfl
    refine XS.then ?_
    refine TS.block ?_
    refine TS.reLoop [] (mkMask 51 [0, 11, 12, 13]) (D := Int) (fun d => match d with | x => (mkTs 51 [(0, (.sl (.st (.pair (.sl (.int .i64)) (.pair (.int .i64) (.pair (.int .i64) (.int .i64))))) tree)), (11, (.sl (.st (.pair (.sl (.int .i64)) (.pair (.int .i64) (.pair (.int .i64) (.int .i64))))) tree)), (12, (.int .i64 ((tree.length : Nat) : Int))), (13, (.int .i64 x))], [])) (fun n' d => loopF (F24_l22 n tree) n' d = some r) n (0 : Int) h ?_ (fun d => loopF_zero _ d r) ?_
    · kernel_rfl
    · rintro n22 x h
      replace h : (bif (decide (x < ((tree.length : Nat) : Int))) then (bif inb x tree.length then ((F71 n ((tree.getD x.toNat (([] : List Int), ((0 : Int), ((0 : Int), (0 : Int))))).1) ((tree.getD x.toNat (([] : List Int), ((0 : Int), ((0 : Int), (0 : Int))))).2.1) ((tree.getD x.toNat (([] : List Int), ((0 : Int), ((0 : Int), (0 : Int))))).2.2.1) ((tree.getD x.toNat (([] : List Int), ((0 : Int), ((0 : Int), (0 : Int))))).2.2.2)).bind fun y_2 => (bif (!y_2) then (some (1 : Int)) else ((loopF (F24_l22 n tree) n22) (IntKind.wrap .i64 (x + (1 : Int)))))) else none) else (loopF (F24_l25 n tree) n (1 : Int))) = some r := h
      refine TS.seq ?_
      have hq : (True) ∧ (True) := ⟨trivial, trivial⟩
      refine TS.reg [] ?_ ?_
      · apply prop_of ?_ hq
        kernel_rfl
      refine XS.then ?_
      refine TS.seq ?_
      rcases bif_some h with ⟨c3, h⟩ | ⟨c4, h⟩
      · refine TS.cond (decide (x < ((tree.length : Nat) : Int))) ?_ (fun hcz => ?_) (fun hcz => by rw [c3] at hcz; cases hcz)
        · kernel_rfl
        refine TS.skip ?_
        refine XS.then ?_
        refine TS.seq ?_
        refine TS.block ?_
        refine TS.seq ?_
        obtain ⟨t5, h⟩ := test_some h
        have hq : (inR x tree.length) ∧ ((True) ∧ ((True) ∧ ((True) ∧ (True)))) := ⟨inb_ok t5, ⟨trivial, ⟨trivial, ⟨trivial, trivial⟩⟩⟩⟩
        refine TS.reg [] ?_ ?_
        · apply prop_of ?_ hq
          kernel_rfl
        refine XS.then ?_
        refine TS.seq ?_
        obtain ⟨y_2, hx6, h⟩ := bind_some' h
        have hq : (True) ∧ ((PureC Try.prog 71 [(.st (.cons (.sl (.int .i64) (tree.getD x.toNat (([] : List Int), ((0 : Int), ((0 : Int), (0 : Int))))).1) (.cons (.int .i64 (tree.getD x.toNat (([] : List Int), ((0 : Int), ((0 : Int), (0 : Int))))).2.1) (.cons (.int .i64 (tree.getD x.toNat (([] : List Int), ((0 : Int), ((0 : Int), (0 : Int))))).2.2.1) (.int .i64 (tree.getD x.toNat (([] : List Int), ((0 : Int), ((0 : Int), (0 : Int))))).2.2.2)))))] (.bool y_2) []) ∧ ((True) ∧ (True))) := ⟨trivial, ⟨F71_ok n ((tree.getD x.toNat (([] : List Int), ((0 : Int), ((0 : Int), (0 : Int))))).1) ((tree.getD x.toNat (([] : List Int), ((0 : Int), ((0 : Int), (0 : Int))))).2.1) ((tree.getD x.toNat (([] : List Int), ((0 : Int), ((0 : Int), (0 : Int))))).2.2.1) ((tree.getD x.toNat (([] : List Int), ((0 : Int), ((0 : Int), (0 : Int))))).2.2.2) y_2 hx6, ⟨trivial, trivial⟩⟩⟩
        refine TS.reg [.none, (.call (.bool y_2) [])] ?_ ?_
        · apply prop_of ?_ hq
          kernel_rfl
        refine XS.then ?_
        rcases bif_some h with ⟨c7, h⟩ | ⟨c8, h⟩
        · refine TS.cond (!y_2) ?_ (fun hcz => ?_) (fun hcz => by rw [c7] at hcz; cases hcz)
          · kernel_rfl
          refine TS.seq ?_
          have hq : (True) ∧ (True) := ⟨trivial, trivial⟩
          refine TS.reg [] ?_ ?_
          · apply prop_of ?_ hq
            kernel_rfl
          refine XS.then ?_
          refine TS.ret ?_
          refine XS.blockRet ?_
          refine XS.passR ?_
          refine XS.passR ?_
          refine XS.blockRet ?_
          refine XS.passR ?_
          obtain rfl : (1 : Int) = r := Option.some.inj h
          exact XS.fin [] ((True) ∧ (True)) (by kernel_rfl) ⟨trivial, trivial⟩
        · refine TS.cond (!y_2) ?_ (fun hcz => by rw [c8] at hcz; cases hcz) (fun hcz => ?_)
          · kernel_rfl
          refine TS.skip ?_
          refine XS.blockEnd ?_
          refine XS.then ?_
          have hq : (True) ∧ ((True) ∧ (True)) := ⟨trivial, ⟨trivial, trivial⟩⟩
          refine TS.reg [] ?_ ?_
          · apply prop_of ?_ hq
            kernel_rfl
          refine XS.reAny [] (mkMask 51 [0, 11, 12, 13]) (IntKind.wrap .i64 (x + (1 : Int))) h ?_
          kernel_rfl
      · refine TS.cond (decide (x < ((tree.length : Nat) : Int))) ?_ (fun hcz => by rw [c4] at hcz; cases hcz) (fun hcz => ?_)
        · kernel_rfl
        refine TS.exit ?_
        refine XS.passE ?_
        refine XS.passE ?_
        refine XS.out ?_
        refine XS.then ?_
        refine TS.seq ?_
        refine TS.seq ?_
        have hq : (True) ∧ (True) := ⟨trivial, trivial⟩
        refine TS.reg [] ?_ ?_
        · apply prop_of ?_ hq
          kernel_rfl
        refine XS.then ?_
        refine TS.block ?_
        refine TS.reLoop [] (mkMask 51 [0, 5]) (D := Int) (fun d => match d with | i => (mkTs 51 [(0, (.sl (.st (.pair (.sl (.int .i64)) (.pair (.int .i64) (.pair (.int .i64) (.int .i64))))) tree)), (5, (.int .i64 i))], [])) (fun n' d => loopF (F24_l25 n tree) n' d = some r) n (1 : Int) h ?_ (fun d => loopF_zero _ d r) ?_
        · kernel_rfl
        · rintro n25 i h
          replace h : (bif (decide (i < ((tree.length : Nat) : Int))) then (bif inb (IntKind.wrap .i64 (i - (1 : Int))) tree.length then (bif inb i tree.length then ((F72 n ((tree.getD ((IntKind.wrap .i64 (i - (1 : Int))).toNat) (([] : List Int), ((0 : Int), ((0 : Int), (0 : Int))))).1) ((tree.getD i.toNat (([] : List Int), ((0 : Int), ((0 : Int), (0 : Int))))).1)).bind fun y_3 => (bif (decide (y_3 ≥ (0 : Int))) then (some (4 : Int)) else ((loopF (F24_l25 n tree) n25) (IntKind.wrap .i64 (i + (1 : Int)))))) else none) else none) else (loopF (F24_l26 n tree) n (0 : Int))) = some r := h
          refine TS.seq ?_
          refine TS.seq ?_
          have hq : (True) ∧ ((True) ∧ ((True) ∧ ((True) ∧ (True)))) := ⟨trivial, ⟨trivial, ⟨trivial, ⟨trivial, trivial⟩⟩⟩⟩
          refine TS.reg [] ?_ ?_
          · apply prop_of ?_ hq
            kernel_rfl
          refine XS.then ?_
          rcases bif_some h with ⟨c9, h⟩ | ⟨c10, h⟩
          · refine TS.cond (decide (i < ((tree.length : Nat) : Int))) ?_ (fun hcz => ?_) (fun hcz => by rw [c9] at hcz; cases hcz)
            · kernel_rfl
            refine TS.skip ?_
            refine XS.then ?_
            refine TS.seq ?_
            refine TS.block ?_
            refine TS.seq ?_
            obtain ⟨t11, h⟩ := test_some h
            obtain ⟨t12, h⟩ := test_some h
            obtain ⟨y_3, hx13, h⟩ := bind_some' h
            have hq : ((True) ∧ ((True) ∧ ((True) ∧ ((inR (IntKind.wrap .i64 (i - (1 : Int))) tree.length) ∧ ((True) ∧ ((True) ∧ ((True) ∧ ((True) ∧ ((inR i tree.length) ∧ ((True) ∧ ((True) ∧ ((PureC Try.prog 72 [(.sl (.int .i64) (tree.getD ((IntKind.wrap .i64 (i - (1 : Int))).toNat) (([] : List Int), ((0 : Int), ((0 : Int), (0 : Int))))).1), (.sl (.int .i64) (tree.getD i.toNat (([] : List Int), ((0 : Int), ((0 : Int), (0 : Int))))).1)] (.int .i64 y_3) []) ∧ ((True) ∧ (True)))))))))))))) ∧ (True) := ⟨⟨trivial, ⟨trivial, ⟨trivial, ⟨inb_ok t11, ⟨trivial, ⟨trivial, ⟨trivial, ⟨trivial, ⟨inb_ok t12, ⟨trivial, ⟨trivial, ⟨F72_ok n ((tree.getD ((IntKind.wrap .i64 (i - (1 : Int))).toNat) (([] : List Int), ((0 : Int), ((0 : Int), (0 : Int))))).1) ((tree.getD i.toNat (([] : List Int), ((0 : Int), ((0 : Int), (0 : Int))))).1) y_3 hx13, ⟨trivial, trivial⟩⟩⟩⟩⟩⟩⟩⟩⟩⟩⟩⟩⟩, trivial⟩
            refine TS.draw 13 [] [.none, .none, .none, .none, .none, .none, .none, .none, .none, .none, .none, (.call (.int .i64 y_3) [])] (by kernel_rfl) ?_ ?_
            · apply prop_of ?_ hq
              kernel_rfl
            refine XS.then ?_
            rcases bif_some h with ⟨c14, h⟩ | ⟨c15, h⟩
            · refine TS.cond (decide (y_3 ≥ (0 : Int))) ?_ (fun hcz => ?_) (fun hcz => by rw [c14] at hcz; cases hcz)
              · kernel_rfl
              refine TS.seq ?_
              have hq : (True) ∧ (True) := ⟨trivial, trivial⟩
              refine TS.reg [] ?_ ?_
              · apply prop_of ?_ hq
                kernel_rfl
              refine XS.then ?_
              refine TS.ret ?_
              refine XS.blockRet ?_
              refine XS.passR ?_
              refine XS.passR ?_
              refine XS.blockRet ?_
              refine XS.passR ?_
              obtain rfl : (4 : Int) = r := Option.some.inj h
              exact XS.fin [] ((True) ∧ (True)) (by kernel_rfl) ⟨trivial, trivial⟩
            · refine TS.cond (decide (y_3 ≥ (0 : Int))) ?_ (fun hcz => by rw [c15] at hcz; cases hcz) (fun hcz => ?_)
              · kernel_rfl
              refine TS.skip ?_
              refine XS.blockEnd ?_
              refine XS.then ?_
              have hq : (True) ∧ ((True) ∧ ((True) ∧ (True))) := ⟨trivial, ⟨trivial, ⟨trivial, trivial⟩⟩⟩
              refine TS.reg [] ?_ ?_
              · apply prop_of ?_ hq
                kernel_rfl
              refine XS.reAny [] (mkMask 51 [0, 5]) (IntKind.wrap .i64 (i + (1 : Int))) h ?_
              kernel_rfl
          · refine TS.cond (decide (i < ((tree.length : Nat) : Int))) ?_ (fun hcz => by rw [c10] at hcz; cases hcz) (fun hcz => ?_)
            · kernel_rfl
            refine TS.exit ?_
            refine XS.passE ?_
            refine XS.passE ?_
            refine XS.out ?_
            refine XS.then ?_
            refine TS.seq ?_
            refine TS.seq ?_
            have hq : (True) ∧ ((True) ∧ ((True) ∧ (True))) := ⟨trivial, ⟨trivial, ⟨trivial, trivial⟩⟩⟩
            refine TS.reg [] ?_ ?_
            · apply prop_of ?_ hq
              kernel_rfl
            refine XS.then ?_
            refine TS.block ?_
            refine TS.reLoop [] (mkMask 51 [0, 40, 41, 42]) (D := Int) (fun d => match d with | x_2 => (mkTs 51 [(0, (.sl (.st (.pair (.sl (.int .i64)) (.pair (.int .i64) (.pair (.int .i64) (.int .i64))))) tree)), (40, (.sl (.st (.pair (.sl (.int .i64)) (.pair (.int .i64) (.pair (.int .i64) (.int .i64))))) tree)), (41, (.int .i64 ((tree.length : Nat) : Int))), (42, (.int .i64 x_2))], [])) (fun n' d => loopF (F24_l26 n tree) n' d = some r) n (0 : Int) h ?_ (fun d => loopF_zero _ d r) ?_
            · kernel_rfl
            · rintro n26 x_2 h
              replace h : (bif (decide (x_2 < ((tree.length : Nat) : Int))) then (bif inb x_2 tree.length then ((F73 n tree ((tree.getD x_2.toNat (([] : List Int), ((0 : Int), ((0 : Int), (0 : Int))))).1) ((tree.getD x_2.toNat (([] : List Int), ((0 : Int), ((0 : Int), (0 : Int))))).2.1) ((tree.getD x_2.toNat (([] : List Int), ((0 : Int), ((0 : Int), (0 : Int))))).2.2.1) ((tree.getD x_2.toNat (([] : List Int), ((0 : Int), ((0 : Int), (0 : Int))))).2.2.2)).bind fun y_4 => (bif (!y_4) then (some (12 : Int)) else ((loopF (F24_l26 n tree) n26) (IntKind.wrap .i64 (x_2 + (1 : Int)))))) else none) else (some (0 : Int))) = some r := h
              refine TS.seq ?_
              have hq : (True) ∧ (True) := ⟨trivial, trivial⟩
              refine TS.reg [] ?_ ?_
              · apply prop_of ?_ hq
                kernel_rfl
              refine XS.then ?_
              refine TS.seq ?_
              rcases bif_some h with ⟨c16, h⟩ | ⟨c17, h⟩
              · refine TS.cond (decide (x_2 < ((tree.length : Nat) : Int))) ?_ (fun hcz => ?_) (fun hcz => by rw [c16] at hcz; cases hcz)
                · kernel_rfl
                refine TS.skip ?_
                refine XS.then ?_
                refine TS.seq ?_
                refine TS.block ?_
                refine TS.seq ?_
                obtain ⟨t18, h⟩ := test_some h
                have hq : (inR x_2 tree.length) ∧ ((True) ∧ ((True) ∧ ((True) ∧ (True)))) := ⟨inb_ok t18, ⟨trivial, ⟨trivial, ⟨trivial, trivial⟩⟩⟩⟩
                refine TS.reg [] ?_ ?_
                · apply prop_of ?_ hq
                  kernel_rfl
                refine XS.then ?_
                refine TS.seq ?_
                obtain ⟨y_4, hx19, h⟩ := bind_some' h
                have hq : (True) ∧ ((True) ∧ ((PureC Try.prog 73 [(.sl (.st (.pair (.sl (.int .i64)) (.pair (.int .i64) (.pair (.int .i64) (.int .i64))))) tree), (.st (.cons (.sl (.int .i64) (tree.getD x_2.toNat (([] : List Int), ((0 : Int), ((0 : Int), (0 : Int))))).1) (.cons (.int .i64 (tree.getD x_2.toNat (([] : List Int), ((0 : Int), ((0 : Int), (0 : Int))))).2.1) (.cons (.int .i64 (tree.getD x_2.toNat (([] : List Int), ((0 : Int), ((0 : Int), (0 : Int))))).2.2.1) (.int .i64 (tree.getD x_2.toNat (([] : List Int), ((0 : Int), ((0 : Int), (0 : Int))))).2.2.2)))))] (.bool y_4) []) ∧ ((True) ∧ (True)))) := ⟨trivial, ⟨trivial, ⟨F73_ok n tree ((tree.getD x_2.toNat (([] : List Int), ((0 : Int), ((0 : Int), (0 : Int))))).1) ((tree.getD x_2.toNat (([] : List Int), ((0 : Int), ((0 : Int), (0 : Int))))).2.1) ((tree.getD x_2.toNat (([] : List Int), ((0 : Int), ((0 : Int), (0 : Int))))).2.2.1) ((tree.getD x_2.toNat (([] : List Int), ((0 : Int), ((0 : Int), (0 : Int))))).2.2.2) y_4 hx19, ⟨trivial, trivial⟩⟩⟩⟩
                refine TS.reg [.none, .none, (.call (.bool y_4) [])] ?_ ?_
                · apply prop_of ?_ hq
                  kernel_rfl
                refine XS.then ?_
                rcases bif_some h with ⟨c20, h⟩ | ⟨c21, h⟩
                · refine TS.cond (!y_4) ?_ (fun hcz => ?_) (fun hcz => by rw [c20] at hcz; cases hcz)
                  · kernel_rfl
                  refine TS.seq ?_
                  have hq : (True) ∧ (True) := ⟨trivial, trivial⟩
                  refine TS.reg [] ?_ ?_
                  · apply prop_of ?_ hq
                    kernel_rfl
                  refine XS.then ?_
                  refine TS.ret ?_
                  refine XS.blockRet ?_
                  refine XS.passR ?_
                  refine XS.passR ?_
                  refine XS.blockRet ?_
                  refine XS.passR ?_
                  obtain rfl : (12 : Int) = r := Option.some.inj h
                  exact XS.fin [] ((True) ∧ (True)) (by kernel_rfl) ⟨trivial, trivial⟩
                · refine TS.cond (!y_4) ?_ (fun hcz => by rw [c21] at hcz; cases hcz) (fun hcz => ?_)
                  · kernel_rfl
                  refine TS.skip ?_
                  refine XS.blockEnd ?_
                  refine XS.then ?_
                  have hq : (True) ∧ ((True) ∧ (True)) := ⟨trivial, ⟨trivial, trivial⟩⟩
                  refine TS.reg [] ?_ ?_
                  · apply prop_of ?_ hq
                    kernel_rfl
                  refine XS.reAny [] (mkMask 51 [0, 40, 41, 42]) (IntKind.wrap .i64 (x_2 + (1 : Int))) h ?_
                  kernel_rfl
              · refine TS.cond (decide (x_2 < ((tree.length : Nat) : Int))) ?_ (fun hcz => by rw [c17] at hcz; cases hcz) (fun hcz => ?_)
                · kernel_rfl
                refine TS.exit ?_
                refine XS.passE ?_
                refine XS.passE ?_
                refine XS.out ?_
                refine XS.then ?_
                refine TS.seq ?_
                have hq : (True) ∧ (True) := ⟨trivial, trivial⟩
                refine TS.reg [] ?_ ?_
                · apply prop_of ?_ hq
                  kernel_rfl
                refine XS.then ?_
                refine TS.ret ?_
                obtain rfl : (0 : Int) = r := Option.some.inj h
                exact XS.fin [] ((True) ∧ (True)) (by kernel_rfl) ⟨trivial, trivial⟩

/-! slices.Min[[]int,int] -/
def F174_l4 (n : Nat) (x : List Int) (k174_4 : (Int × Int) → Option Int) : (Int × Int) → Option Int
  | (m, i) => (bif (decide (i < ((x.length : Nat) : Int))) then (bif inb i x.length then (k174_4 ((if (x.getD i.toNat (0 : Int)) < m then (x.getD i.toNat (0 : Int)) else m), (IntKind.wrap .i64 (i + (1 : Int))))) else none) else (some m))
def F174_j3 (n : Nat) (x : List Int) : Unit → Option Int
  | () => (bif inb (0 : Int) x.length then (loopF (F174_l4 n x) n ((x.getD 0 (0 : Int)), (1 : Int))) else none)
def F174 (n : Nat) (x : List Int) : Option Int := (bif (decide (((x.length : Nat) : Int) < (1 : Int))) then none else (F174_j3 n x ()))
theorem F174_ok (n : Nat) (x : List Int) (r : Int) (h : F174 n x = some r) : PureC Try.prog 174 [(.sl (.int .i64) x)] (.int .i64 r) [] := by
  refine PureC.mkS Try.func174 rfl rfl ?_
  intro w0 fz0 hfz
  replace h : (bif (decide (((x.length : Nat) : Int) < (1 : Int))) then none else (F174_j3 n x ())) = some r := h
  refine TS.seq ?_
  have hq : (True) ∧ (True) := ⟨trivial, trivial⟩
  refine TS.reg [] ?_ ?_
  · apply prop_of ?_ hq
    kernel_rfl
  refine XS.then ?_
  refine TS.seq ?_
  refine TS.seq ?_
  have hq : (True) ∧ ((True) ∧ ((True) ∧ (True))) := ⟨trivial, ⟨trivial, ⟨trivial, trivial⟩⟩⟩
  refine TS.reg [] ?_ ?_
  · apply prop_of ?_ hq
    kernel_rfl
  refine XS.then ?_
  refine TS.cut (D := Unit) (fun d => match d with | () => (mkTs 25 [(0, (.sl (.int .i64) x))], [])) (fun d => F174_j3 n x d = some r) ?_ ?_
  · rintro ⟨⟩ h
    replace h : (bif inb (0 : Int) x.length then (loopF (F174_l4 n x) n ((x.getD 0 (0 : Int)), (1 : Int))) else none) = some r := h
    refine XS.then ?_
    refine TS.seq ?_
    obtain ⟨t1, h⟩ := test_some h
    have hq : (True) ∧ ((inR (0 : Int) x.length) ∧ ((True) ∧ ((True) ∧ (True)))) := ⟨trivial, ⟨inb_ok t1, ⟨trivial, ⟨trivial, trivial⟩⟩⟩⟩
    refine TS.reg [] ?_ ?_
    · apply prop_of ?_ hq
      kernel_rfl
    refine XS.then ?_
    refine TS.seq ?_
    refine TS.seq ?_
    have hq : (True) ∧ (True) := ⟨trivial, trivial⟩
    refine TS.reg [] ?_ ?_
    · apply prop_of ?_ hq
      kernel_rfl
    refine XS.then ?_
    refine TS.block ?_
    refine TS.reLoop [] (mkMask 25 [0, 3, 4]) (D := Int × Int) (fun d => match d with | (m, i) => (mkTs 25 [(0, (.sl (.int .i64) x)), (3, (.int .i64 m)), (4, (.int .i64 i))], [])) (fun n' d => loopF (F174_l4 n x) n' d = some r) n ((x.getD 0 (0 : Int)), (1 : Int)) h ?_ (fun d => loopF_zero _ d r) ?_
    · kernel_rfl
    · rintro n4 ⟨m, i⟩ h
      replace h : (bif (decide (i < ((x.length : Nat) : Int))) then (bif inb i x.length then ((loopF (F174_l4 n x) n4) ((if (x.getD i.toNat (0 : Int)) < m then (x.getD i.toNat (0 : Int)) else m), (IntKind.wrap .i64 (i + (1 : Int))))) else none) else (some m)) = some r := h
      refine TS.seq ?_
      refine TS.seq ?_
      have hq : (True) ∧ ((True) ∧ ((True) ∧ ((True) ∧ (True)))) := ⟨trivial, ⟨trivial, ⟨trivial, ⟨trivial, trivial⟩⟩⟩⟩
      refine TS.reg [] ?_ ?_
      · apply prop_of ?_ hq
        kernel_rfl
      refine XS.then ?_
      rcases bif_some h with ⟨c2, h⟩ | ⟨c3, h⟩
      · refine TS.cond (decide (i < ((x.length : Nat) : Int))) ?_ (fun hcz => ?_) (fun hcz => by rw [c2] at hcz; cases hcz)
        · kernel_rfl
        refine TS.skip ?_
        refine XS.then ?_
        refine TS.seq ?_
        refine TS.block ?_
        obtain ⟨t4, h⟩ := test_some h
        have hq : (True) ∧ ((True) ∧ ((True) ∧ ((inR i x.length) ∧ ((True) ∧ ((True) ∧ ((True) ∧ (True))))))) := ⟨trivial, ⟨trivial, ⟨trivial, ⟨inb_ok t4, ⟨trivial, ⟨trivial, ⟨trivial, trivial⟩⟩⟩⟩⟩⟩⟩
        refine TS.reg [] ?_ ?_
        · apply prop_of ?_ hq
          kernel_rfl
        refine XS.blockEnd ?_
        refine XS.then ?_
        have hq : (True) ∧ ((True) ∧ ((True) ∧ (True))) := ⟨trivial, ⟨trivial, ⟨trivial, trivial⟩⟩⟩
        refine TS.reg [] ?_ ?_
        · apply prop_of ?_ hq
          kernel_rfl
        refine XS.reAny [] (mkMask 25 [0, 3, 4]) ((if (x.getD i.toNat (0 : Int)) < m then (x.getD i.toNat (0 : Int)) else m), (IntKind.wrap .i64 (i + (1 : Int)))) h ?_
        kernel_rfl
      · refine TS.cond (decide (i < ((x.length : Nat) : Int))) ?_ (fun hcz => by rw [c3] at hcz; cases hcz) (fun hcz => ?_)
        · kernel_rfl
        refine TS.exit ?_
        refine XS.passE ?_
        refine XS.passE ?_
        refine XS.out ?_
        refine XS.then ?_
        refine TS.seq ?_
        have hq : (True) ∧ ((True) ∧ (True)) := ⟨trivial, ⟨trivial, trivial⟩⟩
        refine TS.reg [] ?_ ?_
        · apply prop_of ?_ hq
          kernel_rfl
        refine XS.then ?_
        refine TS.ret ?_
        obtain rfl : m = r := Option.some.inj h
        exact XS.fin [] ((True) ∧ (True)) (by kernel_rfl) ⟨trivial, trivial⟩
  · rcases bif_some h with ⟨c5, h⟩ | ⟨c6, h⟩
    · refine TS.cond (decide (((x.length : Nat) : Int) < (1 : Int))) ?_ (fun hcz => ?_) (fun hcz => by rw [c5] at hcz; cases hcz)
      · kernel_rfl
      cases h
    · refine TS.cond (decide (((x.length : Nat) : Int) < (1 : Int))) ?_ (fun hcz => by rw [c6] at hcz; cases hcz) (fun hcz => ?_)
      · kernel_rfl
      refine TS.skip ?_
      refine XS.reAny [] (mkMask 25 [0]) () h ?_
      kernel_rfl

/-! slices.Max[[]int,int] -/
def F175_l4 (n : Nat) (x : List Int) (k175_4 : (Int × Int) → Option Int) : (Int × Int) → Option Int
  | (m, i) => (bif (decide (i < ((x.length : Nat) : Int))) then (bif inb i x.length then (k175_4 ((if (x.getD i.toNat (0 : Int)) > m then (x.getD i.toNat (0 : Int)) else m), (IntKind.wrap .i64 (i + (1 : Int))))) else none) else (some m))
def F175_j3 (n : Nat) (x : List Int) : Unit → Option Int
  | () => (bif inb (0 : Int) x.length then (loopF (F175_l4 n x) n ((x.getD 0 (0 : Int)), (1 : Int))) else none)
def F175 (n : Nat) (x : List Int) : Option Int := (bif (decide (((x.length : Nat) : Int) < (1 : Int))) then none else (F175_j3 n x ()))
theorem F175_ok (n : Nat) (x : List Int) (r : Int) (h : F175 n x = some r) : PureC Try.prog 175 [(.sl (.int .i64) x)] (.int .i64 r) [] := by
  refine PureC.mkS Try.func175 rfl rfl ?_
  intro w0 fz0 hfz
  replace h : (bif (decide (((x.length : Nat) : Int) < (1 : Int))) then none else (F175_j3 n x ())) = some r := h
  refine TS.seq ?_
  have hq : (True) ∧ (True) := ⟨trivial, trivial⟩
  refine TS.reg [] ?_ ?_
  · apply prop_of ?_ hq
    kernel_rfl
  refine XS.then ?_
  refine TS.seq ?_
  refine TS.seq ?_
  have hq : (True) ∧ ((True) ∧ ((True) ∧ (True))) := ⟨trivial, ⟨trivial, ⟨trivial, trivial⟩⟩⟩
  refine TS.reg [] ?_ ?_
  · apply prop_of ?_ hq
    kernel_rfl
  refine XS.then ?_
  refine TS.cut (D := Unit) (fun d => match d with | () => (mkTs 25 [(0, (.sl (.int .i64) x))], [])) (fun d => F175_j3 n x d = some r) ?_ ?_
  · rintro ⟨⟩ h
    replace h : (bif inb (0 : Int) x.length then (loopF (F175_l4 n x) n ((x.getD 0 (0 : Int)), (1 : Int))) else none) = some r := h
    refine XS.then ?_
    refine TS.seq ?_
    obtain ⟨t1, h⟩ := test_some h
    have hq : (True) ∧ ((inR (0 : Int) x.length) ∧ ((True) ∧ ((True) ∧ (True)))) := ⟨trivial, ⟨inb_ok t1, ⟨trivial, ⟨trivial, trivial⟩⟩⟩⟩
    refine TS.reg [] ?_ ?_
    · apply prop_of ?_ hq
      kernel_rfl
    refine XS.then ?_
    refine TS.seq ?_
    refine TS.seq ?_
    have hq : (True) ∧ (True) := ⟨trivial, trivial⟩
    refine TS.reg [] ?_ ?_
    · apply prop_of ?_ hq
      kernel_rfl
    refine XS.then ?_
    refine TS.block ?_
    refine TS.reLoop [] (mkMask 25 [0, 3, 4]) (D := Int × Int) (fun d => match d with | (m, i) => (mkTs 25 [(0, (.sl (.int .i64) x)), (3, (.int .i64 m)), (4, (.int .i64 i))], [])) (fun n' d => loopF (F175_l4 n x) n' d = some r) n ((x.getD 0 (0 : Int)), (1 : Int)) h ?_ (fun d => loopF_zero _ d r) ?_
    · kernel_rfl
    · rintro n4 ⟨m, i⟩ h
      replace h : (bif (decide (i < ((x.length : Nat) : Int))) then (bif inb i x.length then ((loopF (F175_l4 n x) n4) ((if (x.getD i.toNat (0 : Int)) > m then (x.getD i.toNat (0 : Int)) else m), (IntKind.wrap .i64 (i + (1 : Int))))) else none) else (some m)) = some r := h
      refine TS.seq ?_
      refine TS.seq ?_
      have hq : (True) ∧ ((True) ∧ ((True) ∧ ((True) ∧ (True)))) := ⟨trivial, ⟨trivial, ⟨trivial, ⟨trivial, trivial⟩⟩⟩⟩
      refine TS.reg [] ?_ ?_
      · apply prop_of ?_ hq
        kernel_rfl
      refine XS.then ?_
      rcases bif_some h with ⟨c2, h⟩ | ⟨c3, h⟩
      · refine TS.cond (decide (i < ((x.length : Nat) : Int))) ?_ (fun hcz => ?_) (fun hcz => by rw [c2] at hcz; cases hcz)
        · kernel_rfl
        refine TS.skip ?_
        refine XS.then ?_
        refine TS.seq ?_
        refine TS.block ?_
        obtain ⟨t4, h⟩ := test_some h
        have hq : (True) ∧ ((True) ∧ ((True) ∧ ((inR i x.length) ∧ ((True) ∧ ((True) ∧ ((True) ∧ (True))))))) := ⟨trivial, ⟨trivial, ⟨trivial, ⟨inb_ok t4, ⟨trivial, ⟨trivial, ⟨trivial, trivial⟩⟩⟩⟩⟩⟩⟩
        refine TS.reg [] ?_ ?_
        · apply prop_of ?_ hq
          kernel_rfl
        refine XS.blockEnd ?_
        refine XS.then ?_
        have hq : (True) ∧ ((True) ∧ ((True) ∧ (True))) := ⟨trivial, ⟨trivial, ⟨trivial, trivial⟩⟩⟩
        refine TS.reg [] ?_ ?_
        · apply prop_of ?_ hq
          kernel_rfl
        refine XS.reAny [] (mkMask 25 [0, 3, 4]) ((if (x.getD i.toNat (0 : Int)) > m then (x.getD i.toNat (0 : Int)) else m), (IntKind.wrap .i64 (i + (1 : Int)))) h ?_
        kernel_rfl
      · refine TS.cond (decide (i < ((x.length : Nat) : Int))) ?_ (fun hcz => by rw [c3] at hcz; cases hcz) (fun hcz => ?_)
        · kernel_rfl
        refine TS.exit ?_
        refine XS.passE ?_
        refine XS.passE ?_
        refine XS.out ?_
        refine XS.then ?_
        refine TS.seq ?_
        have hq : (True) ∧ ((True) ∧ (True)) := ⟨trivial, ⟨trivial, trivial⟩⟩
        refine TS.reg [] ?_ ?_
        · apply prop_of ?_ hq
          kernel_rfl
        refine XS.then ?_
        refine TS.ret ?_
        obtain rfl : m = r := Option.some.inj h
        exact XS.fin [] ((True) ∧ (True)) (by kernel_rfl) ⟨trivial, trivial⟩
  · rcases bif_some h with ⟨c5, h⟩ | ⟨c6, h⟩
    · refine TS.cond (decide (((x.length : Nat) : Int) < (1 : Int))) ?_ (fun hcz => ?_) (fun hcz => by rw [c5] at hcz; cases hcz)
      · kernel_rfl
      cases h
    · refine TS.cond (decide (((x.length : Nat) : Int) < (1 : Int))) ?_ (fun hcz => by rw [c6] at hcz; cases hcz) (fun hcz => ?_)
      · kernel_rfl
      refine TS.skip ?_
      refine XS.reAny [] (mkMask 25 [0]) () h ?_
      kernel_rfl

/-! plugtree/plugref.Path -/
def F146 (n : Nat) (path : List Int) : Option Int := (bif (decide (((path.length : Nat) : Int) > (6 : Int))) then (some (2 : Int)) else (bif (((path.length : Nat) : Int) == (0 : Int)) then (some (1 : Int)) else ((F174 n path).bind fun y_2 => (bif (decide (y_2 < (1 : Int))) then (some (1 : Int)) else ((F175 n path).bind fun y_3 => (bif (decide (y_3 > (15 : Int))) then (some (1 : Int)) else (some (0 : Int))))))))
theorem F146_ok (n : Nat) (path : List Int) (r : Int) (h : F146 n path = some r) : PureC Try.prog 146 [(.sl (.int .i64) path)] (.int .i64 r) [] := by
  refine PureC.mkS Try.func146 rfl rfl ?_
  intro w0 fz0 hfz
  replace h : (bif (decide (((path.length : Nat) : Int) > (6 : Int))) then (some (2 : Int)) else (bif (((path.length : Nat) : Int) == (0 : Int)) then (some (1 : Int)) else ((F174 n path).bind fun y_2 => (bif (decide (y_2 < (1 : Int))) then (some (1 : Int)) else ((F175 n path).bind fun y_3 => (bif (decide (y_3 > (15 : Int))) then (some (1 : Int)) else (some (0 : Int)))))))) = some r := h
  refine TS.seq ?_
  have hq : (True) ∧ (True) := ⟨trivial, trivial⟩
  refine TS.reg [] ?_ ?_
  · apply prop_of ?_ hq
    kernel_rfl
  refine XS.then ?_
  refine TS.seq ?_
  refine TS.seq ?_
  have hq : (True) ∧ ((True) ∧ ((True) ∧ (True))) := ⟨trivial, ⟨trivial, ⟨trivial, trivial⟩⟩⟩
  refine TS.reg [] ?_ ?_
  · apply prop_of ?_ hq
    kernel_rfl
  refine XS.then ?_
  rcases bif_some h with ⟨c1, h⟩ | ⟨c2, h⟩
  · refine TS.cond (decide (((path.length : Nat) : Int) > (6 : Int))) ?_ (fun hcz => ?_) (fun hcz => by rw [c1] at hcz; cases hcz)
    · kernel_rfl
    refine TS.seq ?_
    have hq : (True) ∧ (True) := ⟨trivial, trivial⟩
    refine TS.reg [] ?_ ?_
    · apply prop_of ?_ hq
      kernel_rfl
    refine XS.then ?_
    refine TS.ret ?_
    refine XS.passR ?_
    obtain rfl : (2 : Int) = r := Option.some.inj h
    exact XS.fin [] ((True) ∧ (True)) (by kernel_rfl) ⟨trivial, trivial⟩
  · refine TS.cond (decide (((path.length : Nat) : Int) > (6 : Int))) ?_ (fun hcz => by rw [c2] at hcz; cases hcz) (fun hcz => ?_)
    · kernel_rfl
    refine TS.skip ?_
    refine XS.then ?_
    refine TS.seq ?_
    refine TS.seq ?_
    rcases bif_some h with ⟨c3, h⟩ | ⟨c4, h⟩
    · have hq : (True) ∧ ((True) ∧ ((True) ∧ (((True) ∧ (((path.length : Nat) : Int) == (0 : Int)) = true) ∧ ((True) ∧ ((True) ∧ ((True) ∧ (True))))))) := ⟨trivial, ⟨trivial, ⟨trivial, ⟨⟨trivial, c3⟩, ⟨trivial, ⟨trivial, ⟨trivial, trivial⟩⟩⟩⟩⟩⟩⟩
      refine TS.reg [.none, .none, .none, .dec true] ?_ ?_
      · apply prop_of ?_ hq
        kernel_rfl
      refine XS.then ?_
      refine TS.yes ?_ ?_
      · kernel_rfl
      refine TS.seq ?_
      have hq : (True) ∧ (True) := ⟨trivial, trivial⟩
      refine TS.reg [] ?_ ?_
      · apply prop_of ?_ hq
        kernel_rfl
      refine XS.then ?_
      refine TS.ret ?_
      refine XS.passR ?_
      obtain rfl : (1 : Int) = r := Option.some.inj h
      exact XS.fin [] ((True) ∧ (True)) (by kernel_rfl) ⟨trivial, trivial⟩
    · obtain ⟨y_2, hx5, h⟩ := bind_some' h
      rcases bif_some h with ⟨c6, h⟩ | ⟨c7, h⟩
      · have hq : (True) ∧ ((True) ∧ ((True) ∧ (((True) ∧ (((path.length : Nat) : Int) == (0 : Int)) = false) ∧ ((True) ∧ ((PureC Try.prog 174 [(.sl (.int .i64) path)] (.int .i64 y_2) []) ∧ ((True) ∧ ((True) ∧ (((True) ∧ (decide (y_2 < (1 : Int))) = true) ∧ ((True) ∧ (True)))))))))) := ⟨trivial, ⟨trivial, ⟨trivial, ⟨⟨trivial, c4⟩, ⟨trivial, ⟨F174_ok n path y_2 hx5, ⟨trivial, ⟨trivial, ⟨⟨trivial, c6⟩, ⟨trivial, trivial⟩⟩⟩⟩⟩⟩⟩⟩⟩⟩
        refine TS.reg [.none, .none, .none, .dec false, .none, (.call (.int .i64 y_2) []), .none, .none, .dec true] ?_ ?_
        · apply prop_of ?_ hq
          kernel_rfl
        refine XS.then ?_
        refine TS.yes ?_ ?_
        · kernel_rfl
        refine TS.seq ?_
        have hq : (True) ∧ (True) := ⟨trivial, trivial⟩
        refine TS.reg [] ?_ ?_
        · apply prop_of ?_ hq
          kernel_rfl
        refine XS.then ?_
        refine TS.ret ?_
        refine XS.passR ?_
        obtain rfl : (1 : Int) = r := Option.some.inj h
        exact XS.fin [] ((True) ∧ (True)) (by kernel_rfl) ⟨trivial, trivial⟩
      · obtain ⟨y_3, hx8, h⟩ := bind_some' h
        have hq : (True) ∧ ((True) ∧ ((True) ∧ (((True) ∧ (((path.length : Nat) : Int) == (0 : Int)) = false) ∧ ((True) ∧ ((PureC Try.prog 174 [(.sl (.int .i64) path)] (.int .i64 y_2) []) ∧ ((True) ∧ ((True) ∧ (((True) ∧ (decide (y_2 < (1 : Int))) = false) ∧ ((True) ∧ ((PureC Try.prog 175 [(.sl (.int .i64) path)] (.int .i64 y_3) []) ∧ ((True) ∧ ((True) ∧ (True))))))))))))) := ⟨trivial, ⟨trivial, ⟨trivial, ⟨⟨trivial, c4⟩, ⟨trivial, ⟨F174_ok n path y_2 hx5, ⟨trivial, ⟨trivial, ⟨⟨trivial, c7⟩, ⟨trivial, ⟨F175_ok n path y_3 hx8, ⟨trivial, ⟨trivial, trivial⟩⟩⟩⟩⟩⟩⟩⟩⟩⟩⟩⟩⟩
        refine TS.reg [.none, .none, .none, .dec false, .none, (.call (.int .i64 y_2) []), .none, .none, .dec false, .none, (.call (.int .i64 y_3) [])] ?_ ?_
        · apply prop_of ?_ hq
          kernel_rfl
        refine XS.then ?_
        rcases bif_some h with ⟨c9, h⟩ | ⟨c10, h⟩
        · refine TS.cond (decide (y_3 > (15 : Int))) ?_ (fun hcz => ?_) (fun hcz => by rw [c9] at hcz; cases hcz)
          · kernel_rfl
          refine TS.seq ?_
          have hq : (True) ∧ (True) := ⟨trivial, trivial⟩
          refine TS.reg [] ?_ ?_
          · apply prop_of ?_ hq
            kernel_rfl
          refine XS.then ?_
          refine TS.ret ?_
          refine XS.passR ?_
          obtain rfl : (1 : Int) = r := Option.some.inj h
          exact XS.fin [] ((True) ∧ (True)) (by kernel_rfl) ⟨trivial, trivial⟩
        · refine TS.cond (decide (y_3 > (15 : Int))) ?_ (fun hcz => by rw [c10] at hcz; cases hcz) (fun hcz => ?_)
          · kernel_rfl
          refine TS.skip ?_
          refine XS.then ?_
          refine TS.seq ?_
          have hq : (True) ∧ (True) := ⟨trivial, trivial⟩
          refine TS.reg [] ?_ ?_
          · apply prop_of ?_ hq
            kernel_rfl
          refine XS.then ?_
          refine TS.ret ?_
          obtain rfl : (0 : Int) = r := Option.some.inj h
          exact XS.fin [] ((True) ∧ (True)) (by kernel_rfl) ⟨trivial, trivial⟩

/-! plugtree/plugref.Between -/
def F15 (n : Nat) (vn : Int) (low : Int) (high : Int) : Option Bool := (bif (decide (low ≤ vn)) then (some (decide (vn ≤ high))) else (some false))
theorem F15_ok (n : Nat) (vn : Int) (low : Int) (high : Int) (r : Bool) (h : F15 n vn low high = some r) : PureC Try.prog 15 [(.int .i64 vn), (.int .i64 low), (.int .i64 high)] (.bool r) [] := by
  refine PureC.mkS Try.func15 rfl rfl ?_
  intro w0 fz0 hfz
  replace h : (bif (decide (low ≤ vn)) then (some (decide (vn ≤ high))) else (some false)) = some r := h
  refine TS.seq ?_
  have hq : (True) ∧ (True) := ⟨trivial, trivial⟩
  refine TS.reg [] ?_ ?_
  · apply prop_of ?_ hq
    kernel_rfl
  refine XS.then ?_
  refine TS.seq ?_
  rcases bif_some h with ⟨c1, h⟩ | ⟨c2, h⟩
  · have hq : (True) ∧ ((True) ∧ ((True) ∧ (((True) ∧ (decide (low ≤ vn)) = true) ∧ ((True) ∧ ((True) ∧ ((True) ∧ ((True) ∧ ((True) ∧ (True))))))))) := ⟨trivial, ⟨trivial, ⟨trivial, ⟨⟨trivial, c1⟩, ⟨trivial, ⟨trivial, ⟨trivial, ⟨trivial, ⟨trivial, trivial⟩⟩⟩⟩⟩⟩⟩⟩⟩
    refine TS.reg [.none, .none, .none, .dec true] ?_ ?_
    · apply prop_of ?_ hq
      kernel_rfl
    refine XS.then ?_
    refine TS.ret ?_
    obtain rfl : (decide (vn ≤ high)) = r := Option.some.inj h
    exact XS.fin [] ((True) ∧ (True)) (by kernel_rfl) ⟨trivial, trivial⟩
  · have hq : (True) ∧ ((True) ∧ ((True) ∧ (((True) ∧ (decide (low ≤ vn)) = false) ∧ ((True) ∧ ((True) ∧ (True)))))) := ⟨trivial, ⟨trivial, ⟨trivial, ⟨⟨trivial, c2⟩, ⟨trivial, ⟨trivial, trivial⟩⟩⟩⟩⟩⟩
    refine TS.reg [.none, .none, .none, .dec false] ?_ ?_
    · apply prop_of ?_ hq
      kernel_rfl
    refine XS.then ?_
    refine TS.ret ?_
    obtain rfl : false = r := Option.some.inj h
    exact XS.fin [] ((True) ∧ (True)) (by kernel_rfl) ⟨trivial, trivial⟩

/-! plugtree/plugref.Node -/
def F74 (n : Nat) (n_Path : List Int) (n_Kind : Int) (n_Ports : Int) (n_Serial : Int) : Option Bool := ((F146 n n_Path).bind fun y_2 => (bif (y_2 != (0 : Int)) then (some false) else ((F15 n n_Kind (1 : Int) (3 : Int)).bind fun y_3 => (bif (!y_3) then (some false) else (bif (n_Kind == (1 : Int)) then ((F15 n n_Ports (1 : Int) (15 : Int)).bind fun y_4 => (bif y_4 then (some (decide (((n_Path.length : Nat) : Int) ≤ (5 : Int)))) else (some false))) else (some (n_Ports == (0 : Int))))))))
theorem F74_ok (n : Nat) (n_Path : List Int) (n_Kind : Int) (n_Ports : Int) (n_Serial : Int) (r : Bool) (h : F74 n n_Path n_Kind n_Ports n_Serial = some r) : PureC Try.prog 74 [(.st (.cons (.sl (.int .i64) n_Path) (.cons (.int .i64 n_Kind) (.cons (.int .i64 n_Ports) (.int .i64 n_Serial)))))] (.bool r) [] := by
  refine PureC.mkS Try.func74 rfl rfl ?_
  intro w0 fz0 hfz
  replace h : ((F146 n n_Path).bind fun y_2 => (bif (y_2 != (0 : Int)) then (some false) else ((F15 n n_Kind (1 : Int) (3 : Int)).bind fun y_3 => (bif (!y_3) then (some false) else (bif (n_Kind == (1 : Int)) then ((F15 n n_Ports (1 : Int) (15 : Int)).bind fun y_4 => (bif y_4 then (some (decide (((n_Path.length : Nat) : Int) ≤ (5 : Int)))) else (some false))) else (some (n_Ports == (0 : Int)))))))) = some r := h
  refine TS.seq ?_
  have hq : (True) ∧ ((True) ∧ (True)) := ⟨trivial, ⟨trivial, trivial⟩⟩
  refine TS.reg [] ?_ ?_
  · apply prop_of ?_ hq
    kernel_rfl
  refine XS.then ?_
  refine TS.seq ?_
  refine TS.seq ?_
  obtain ⟨y_2, hx1, h⟩ := bind_some' h
  rcases bif_some h with ⟨c2, h⟩ | ⟨c3, h⟩
  · have hq : (True) ∧ ((True) ∧ ((PureC Try.prog 146 [(.sl (.int .i64) n_Path)] (.int .i64 y_2) []) ∧ ((True) ∧ (((True) ∧ (y_2 != (0 : Int)) = true) ∧ ((True) ∧ (True)))))) := ⟨trivial, ⟨trivial, ⟨F146_ok n n_Path y_2 hx1, ⟨trivial, ⟨⟨trivial, c2⟩, ⟨trivial, trivial⟩⟩⟩⟩⟩⟩
    refine TS.reg [.none, .none, (.call (.int .i64 y_2) []), .none, .dec true] ?_ ?_
    · apply prop_of ?_ hq
      kernel_rfl
    refine XS.then ?_
    refine TS.yes ?_ ?_
    · kernel_rfl
    refine TS.seq ?_
    have hq : (True) ∧ (True) := ⟨trivial, trivial⟩
    refine TS.reg [] ?_ ?_
    · apply prop_of ?_ hq
      kernel_rfl
    refine XS.then ?_
    refine TS.ret ?_
    refine XS.passR ?_
    obtain rfl : false = r := Option.some.inj h
    exact XS.fin [] ((True) ∧ (True)) (by kernel_rfl) ⟨trivial, trivial⟩
  · obtain ⟨y_3, hx4, h⟩ := bind_some' h
    have hq : (True) ∧ ((True) ∧ ((PureC Try.prog 146 [(.sl (.int .i64) n_Path)] (.int .i64 y_2) []) ∧ ((True) ∧ (((True) ∧ (y_2 != (0 : Int)) = false) ∧ ((True) ∧ ((True) ∧ ((PureC Try.prog 15 [(.int .i64 n_Kind), (.int .i64 (1 : Int)), (.int .i64 (3 : Int))] (.bool y_3) []) ∧ ((True) ∧ ((True) ∧ (True)))))))))) := ⟨trivial, ⟨trivial, ⟨F146_ok n n_Path y_2 hx1, ⟨trivial, ⟨⟨trivial, c3⟩, ⟨trivial, ⟨trivial, ⟨F15_ok n n_Kind (1 : Int) (3 : Int) y_3 hx4, ⟨trivial, ⟨trivial, trivial⟩⟩⟩⟩⟩⟩⟩⟩⟩⟩
    refine TS.reg [.none, .none, (.call (.int .i64 y_2) []), .none, .dec false, .none, .none, (.call (.bool y_3) [])] ?_ ?_
    · apply prop_of ?_ hq
      kernel_rfl
    refine XS.then ?_
    rcases bif_some h with ⟨c5, h⟩ | ⟨c6, h⟩
    · refine TS.cond (!y_3) ?_ (fun hcz => ?_) (fun hcz => by rw [c5] at hcz; cases hcz)
      · kernel_rfl
      refine TS.seq ?_
      have hq : (True) ∧ (True) := ⟨trivial, trivial⟩
      refine TS.reg [] ?_ ?_
      · apply prop_of ?_ hq
        kernel_rfl
      refine XS.then ?_
      refine TS.ret ?_
      refine XS.passR ?_
      obtain rfl : false = r := Option.some.inj h
      exact XS.fin [] ((True) ∧ (True)) (by kernel_rfl) ⟨trivial, trivial⟩
    · refine TS.cond (!y_3) ?_ (fun hcz => by rw [c6] at hcz; cases hcz) (fun hcz => ?_)
      · kernel_rfl
      refine TS.skip ?_
      refine XS.then ?_
      refine TS.seq ?_
      refine TS.seq ?_
      have hq : (True) ∧ ((True) ∧ ((True) ∧ (True))) := ⟨trivial, ⟨trivial, ⟨trivial, trivial⟩⟩⟩
      refine TS.reg [] ?_ ?_
      · apply prop_of ?_ hq
        kernel_rfl
      refine XS.then ?_
      rcases bif_some h with ⟨c7, h⟩ | ⟨c8, h⟩
      · refine TS.cond (n_Kind == (1 : Int)) ?_ (fun hcz => ?_) (fun hcz => by rw [c7] at hcz; cases hcz)
        · kernel_rfl
        refine TS.seq ?_
        obtain ⟨y_4, hx9, h⟩ := bind_some' h
        rcases bif_some h with ⟨c10, h⟩ | ⟨c11, h⟩
        · have hq : (True) ∧ ((True) ∧ ((PureC Try.prog 15 [(.int .i64 n_Ports), (.int .i64 (1 : Int)), (.int .i64 (15 : Int))] (.bool y_4) []) ∧ (((True) ∧ y_4 = true) ∧ ((True) ∧ ((True) ∧ ((True) ∧ ((True) ∧ ((True) ∧ ((True) ∧ (True)))))))))) := ⟨trivial, ⟨trivial, ⟨F15_ok n n_Ports (1 : Int) (15 : Int) y_4 hx9, ⟨⟨trivial, c10⟩, ⟨trivial, ⟨trivial, ⟨trivial, ⟨trivial, ⟨trivial, ⟨trivial, trivial⟩⟩⟩⟩⟩⟩⟩⟩⟩⟩
          refine TS.reg [.none, .none, (.call (.bool y_4) []), .dec true] ?_ ?_
          · apply prop_of ?_ hq
            kernel_rfl
          refine XS.then ?_
          refine TS.ret ?_
          refine XS.passR ?_
          obtain rfl : (decide (((n_Path.length : Nat) : Int) ≤ (5 : Int))) = r := Option.some.inj h
          exact XS.fin [] ((True) ∧ (True)) (by kernel_rfl) ⟨trivial, trivial⟩
        · have hq : (True) ∧ ((True) ∧ ((PureC Try.prog 15 [(.int .i64 n_Ports), (.int .i64 (1 : Int)), (.int .i64 (15 : Int))] (.bool y_4) []) ∧ (((True) ∧ y_4 = false) ∧ ((True) ∧ ((True) ∧ (True)))))) := ⟨trivial, ⟨trivial, ⟨F15_ok n n_Ports (1 : Int) (15 : Int) y_4 hx9, ⟨⟨trivial, c11⟩, ⟨trivial, ⟨trivial, trivial⟩⟩⟩⟩⟩⟩
          refine TS.reg [.none, .none, (.call (.bool y_4) []), .dec false] ?_ ?_
          · apply prop_of ?_ hq
            kernel_rfl
          refine XS.then ?_
          refine TS.ret ?_
          refine XS.passR ?_
          obtain rfl : false = r := Option.some.inj h
          exact XS.fin [] ((True) ∧ (True)) (by kernel_rfl) ⟨trivial, trivial⟩
      · refine TS.cond (n_Kind == (1 : Int)) ?_ (fun hcz => by rw [c8] at hcz; cases hcz) (fun hcz => ?_)
        · kernel_rfl
        refine TS.skip ?_
        refine XS.then ?_
        refine TS.seq ?_
        have hq : (True) ∧ ((True) ∧ ((True) ∧ ((True) ∧ (True)))) := ⟨trivial, ⟨trivial, ⟨trivial, ⟨trivial, trivial⟩⟩⟩⟩
        refine TS.reg [] ?_ ?_
        · apply prop_of ?_ hq
          kernel_rfl
        refine XS.then ?_
        refine TS.ret ?_
        obtain rfl : (n_Ports == (0 : Int)) = r := Option.some.inj h
        exact XS.fin [] ((True) ∧ (True)) (by kernel_rfl) ⟨trivial, trivial⟩

/-! plugtree/plugref.Before -/
def F75 : Nat → (List Int) → (List Int) → Option Bool
  | 0, _, _ => none
  | n + 1, a, b => (bif (((b.length : Nat) : Int) == (0 : Int)) then (some false) else (bif (((a.length : Nat) : Int) == (0 : Int)) then (some true) else (bif inb (0 : Int) a.length then (bif inb (0 : Int) b.length then (bif (decide ((a.getD 0 (0 : Int)) < (b.getD 0 (0 : Int)))) then (some true) else (bif ((a.getD 0 (0 : Int)) == (b.getD 0 (0 : Int))) then (bif subB a.length (some (1 : Int)) none then (bif subB b.length (some (1 : Int)) none then ((F75 n (a.drop 1) (b.drop 1)).bind fun y_2 => (some y_2)) else none) else none) else (some false))) else none) else none)))
theorem F75_ok : ∀ (n : Nat) (a : List Int) (b : List Int) (r : Bool) (h : F75 n a b = some r), PureC Try.prog 75 [(.sl (.int .i64) a), (.sl (.int .i64) b)] (.bool r) []
  | 0, a, b, r, h => by cases h
  | n + 1, a, b, r, h => by
    refine PureC.mkS Try.func75 rfl rfl ?_
    intro w0 fz0 hfz
    replace h : (bif (((b.length : Nat) : Int) == (0 : Int)) then (some false) else (bif (((a.length : Nat) : Int) == (0 : Int)) then (some true) else (bif inb (0 : Int) a.length then (bif inb (0 : Int) b.length then (bif (decide ((a.getD 0 (0 : Int)) < (b.getD 0 (0 : Int)))) then (some true) else (bif ((a.getD 0 (0 : Int)) == (b.getD 0 (0 : Int))) then (bif subB a.length (some (1 : Int)) none then (bif subB b.length (some (1 : Int)) none then ((F75 n (a.drop 1) (b.drop 1)).bind fun y_2 => (some y_2)) else none) else none) else (some false))) else none) else none))) = some r := h
    refine TS.seq ?_
    have hq : (True) ∧ (True) := ⟨trivial, trivial⟩
    refine TS.reg [] ?_ ?_
    · apply prop_of ?_ hq
      kernel_rfl
    refine XS.then ?_
    refine TS.seq ?_
    refine TS.seq ?_
    have hq : (True) ∧ ((True) ∧ ((True) ∧ (True))) := ⟨trivial, ⟨trivial, ⟨trivial, trivial⟩⟩⟩
    refine TS.reg [] ?_ ?_
    · apply prop_of ?_ hq
      kernel_rfl
    refine XS.then ?_
    rcases bif_some h with ⟨c1, h⟩ | ⟨c2, h⟩
    · refine TS.cond (((b.length : Nat) : Int) == (0 : Int)) ?_ (fun hcz => ?_) (fun hcz => by rw [c1] at hcz; cases hcz)
      · kernel_rfl
      refine TS.seq ?_
      have hq : (True) ∧ (True) := ⟨trivial, trivial⟩
      refine TS.reg [] ?_ ?_
      · apply prop_of ?_ hq
        kernel_rfl
      refine XS.then ?_
      refine TS.ret ?_
      refine XS.passR ?_
      obtain rfl : false = r := Option.some.inj h
      exact XS.fin [] ((True) ∧ (True)) (by kernel_rfl) ⟨trivial, trivial⟩
    · refine TS.cond (((b.length : Nat) : Int) == (0 : Int)) ?_ (fun hcz => by rw [c2] at hcz; cases hcz) (fun hcz => ?_)
      · kernel_rfl
      refine TS.skip ?_
      refine XS.then ?_
      refine TS.seq ?_
      refine TS.seq ?_
      rcases bif_some h with ⟨c3, h⟩ | ⟨c4, h⟩
      · have hq : ((True) ∧ ((True) ∧ ((True) ∧ (((True) ∧ (((a.length : Nat) : Int) == (0 : Int)) = true) ∧ ((True) ∧ (True)))))) ∧ (True) := ⟨⟨trivial, ⟨trivial, ⟨trivial, ⟨⟨trivial, c3⟩, ⟨trivial, trivial⟩⟩⟩⟩⟩, trivial⟩
        refine TS.draw 12 [] [.none, .none, .none, .dec true] (by kernel_rfl) ?_ ?_
        · apply prop_of ?_ hq
          kernel_rfl
        refine XS.then ?_
        refine TS.yes ?_ ?_
        · kernel_rfl
        refine TS.seq ?_
        have hq : (True) ∧ (True) := ⟨trivial, trivial⟩
        refine TS.reg [] ?_ ?_
        · apply prop_of ?_ hq
          kernel_rfl
        refine XS.then ?_
        refine TS.ret ?_
        refine XS.passR ?_
        obtain rfl : true = r := Option.some.inj h
        exact XS.fin [] ((True) ∧ (True)) (by kernel_rfl) ⟨trivial, trivial⟩
      · obtain ⟨t5, h⟩ := test_some h
        obtain ⟨t6, h⟩ := test_some h
        have hq : ((True) ∧ ((True) ∧ ((True) ∧ (((True) ∧ (((a.length : Nat) : Int) == (0 : Int)) = false) ∧ ((True) ∧ ((inR (0 : Int) a.length) ∧ ((True) ∧ ((True) ∧ ((inR (0 : Int) b.length) ∧ ((True) ∧ ((True) ∧ ((True) ∧ (True))))))))))))) ∧ (True) := ⟨⟨trivial, ⟨trivial, ⟨trivial, ⟨⟨trivial, c4⟩, ⟨trivial, ⟨inb_ok t5, ⟨trivial, ⟨trivial, ⟨inb_ok t6, ⟨trivial, ⟨trivial, ⟨trivial, trivial⟩⟩⟩⟩⟩⟩⟩⟩⟩⟩⟩⟩, trivial⟩
        refine TS.draw 12 [] [.none, .none, .none, .dec false] (by kernel_rfl) ?_ ?_
        · apply prop_of ?_ hq
          kernel_rfl
        refine XS.then ?_
        rcases bif_some h with ⟨c7, h⟩ | ⟨c8, h⟩
        · refine TS.cond (decide ((a.getD 0 (0 : Int)) < (b.getD 0 (0 : Int)))) ?_ (fun hcz => ?_) (fun hcz => by rw [c7] at hcz; cases hcz)
          · kernel_rfl
          refine TS.seq ?_
          have hq : (True) ∧ (True) := ⟨trivial, trivial⟩
          refine TS.reg [] ?_ ?_
          · apply prop_of ?_ hq
            kernel_rfl
          refine XS.then ?_
          refine TS.ret ?_
          refine XS.passR ?_
          obtain rfl : true = r := Option.some.inj h
          exact XS.fin [] ((True) ∧ (True)) (by kernel_rfl) ⟨trivial, trivial⟩
        · refine TS.cond (decide ((a.getD 0 (0 : Int)) < (b.getD 0 (0 : Int)))) ?_ (fun hcz => by rw [c8] at hcz; cases hcz) (fun hcz => ?_)
          · kernel_rfl
          refine TS.skip ?_
          refine XS.then ?_
          refine TS.seq ?_
          rcases bif_some h with ⟨c9, h⟩ | ⟨c10, h⟩
          · obtain ⟨t11, h⟩ := test_some h
            obtain ⟨t12, h⟩ := test_some h
            obtain ⟨y_2, hx13, h⟩ := bind_some' h
            have hq : ((True) ∧ ((inR (0 : Int) a.length) ∧ ((True) ∧ ((True) ∧ ((inR (0 : Int) b.length) ∧ ((True) ∧ ((True) ∧ (((True) ∧ ((a.getD 0 (0 : Int)) == (b.getD 0 (0 : Int))) = true) ∧ ((True) ∧ ((subC a.length (some (1 : Int)) none) ∧ ((True) ∧ ((subC b.length (some (1 : Int)) none) ∧ ((PureC Try.prog 75 [(.sl (.int .i64) (a.drop 1)), (.sl (.int .i64) (b.drop 1))] (.bool y_2) []) ∧ ((True) ∧ (True))))))))))))))) ∧ ((True) ∧ (True)) := ⟨⟨trivial, ⟨inb_ok t5, ⟨trivial, ⟨trivial, ⟨inb_ok t6, ⟨trivial, ⟨trivial, ⟨⟨trivial, c9⟩, ⟨trivial, ⟨subB_ok t11, ⟨trivial, ⟨subB_ok t12, ⟨F75_ok n (a.drop 1) (b.drop 1) y_2 hx13, ⟨trivial, trivial⟩⟩⟩⟩⟩⟩⟩⟩⟩⟩⟩⟩⟩⟩, ⟨trivial, trivial⟩⟩
            refine TS.draw 14 [] [.none, .none, .none, .none, .none, .none, .none, .dec true, .none, .none, .none, .none, (.call (.bool y_2) [])] (by kernel_rfl) ?_ ?_
            · apply prop_of ?_ hq
              kernel_rfl
            refine XS.then ?_
            refine TS.ret ?_
            obtain rfl : y_2 = r := Option.some.inj h
            exact XS.fin [] ((True) ∧ (True)) (by kernel_rfl) ⟨trivial, trivial⟩
          · have hq : ((True) ∧ ((inR (0 : Int) a.length) ∧ ((True) ∧ ((True) ∧ ((inR (0 : Int) b.length) ∧ ((True) ∧ ((True) ∧ (((True) ∧ ((a.getD 0 (0 : Int)) == (b.getD 0 (0 : Int))) = false) ∧ ((True) ∧ (True)))))))))) ∧ ((True) ∧ (True)) := ⟨⟨trivial, ⟨inb_ok t5, ⟨trivial, ⟨trivial, ⟨inb_ok t6, ⟨trivial, ⟨trivial, ⟨⟨trivial, c10⟩, ⟨trivial, trivial⟩⟩⟩⟩⟩⟩⟩⟩⟩, ⟨trivial, trivial⟩⟩
            refine TS.draw 14 [] [.none, .none, .none, .none, .none, .none, .none, .dec false] (by kernel_rfl) ?_ ?_
            · apply prop_of ?_ hq
              kernel_rfl
            refine XS.then ?_
            refine TS.ret ?_
            obtain rfl : false = r := Option.some.inj h
            exact XS.fin [] ((True) ∧ (True)) (by kernel_rfl) ⟨trivial, trivial⟩

/-! plugtree/plugref.Fits -/
def F76_l2 (n : Nat) (tree : List ((List Int) × Int × Int × Int)) (n_Path : List Int) (k76_2 : Int → Option Bool) : Int → Option Bool
  | x => (bif (decide (x < ((tree.length : Nat) : Int))) then (bif inb x tree.length then (bif ((tree.getD x.toNat (([] : List Int), ((0 : Int), ((0 : Int), (0 : Int))))).2.1 == (1 : Int)) then (bif subB n_Path.length none (some (IntKind.wrap .i64 (((n_Path.length : Nat) : Int) - (1 : Int)))) then ((F70 n ((tree.getD x.toNat (([] : List Int), ((0 : Int), ((0 : Int), (0 : Int))))).1) (n_Path.take (IntKind.wrap .i64 (((n_Path.length : Nat) : Int) - (1 : Int))).toNat)).bind fun y_2 => (bif y_2 then (bif inb (IntKind.wrap .i64 (((n_Path.length : Nat) : Int) - (1 : Int))) n_Path.length then (some (decide ((n_Path.getD ((IntKind.wrap .i64 (((n_Path.length : Nat) : Int) - (1 : Int))).toNat) (0 : Int)) ≤ (tree.getD x.toNat (([] : List Int), ((0 : Int), ((0 : Int), (0 : Int))))).2.2.1))) else none) else (k76_2 (IntKind.wrap .i64 (x + (1 : Int)))))) else none) else (k76_2 (IntKind.wrap .i64 (x + (1 : Int))))) else none) else (some false))
def F76 (n : Nat) (tree : List ((List Int) × Int × Int × Int)) (n_Path : List Int) (n_Kind : Int) (n_Ports : Int) (n_Serial : Int) : Option Bool := (bif ((IntKind.wrap .i64 (((n_Path.length : Nat) : Int) - (1 : Int))) == (0 : Int)) then (bif inb (0 : Int) n_Path.length then (some (decide ((n_Path.getD 0 (0 : Int)) ≤ (4 : Int)))) else none) else (loopF (F76_l2 n tree n_Path) n (0 : Int)))
theorem F76_ok (n : Nat) (tree : List ((List Int) × Int × Int × Int)) (n_Path : List Int) (n_Kind : Int) (n_Ports : Int) (n_Serial : Int) (r : Bool) (h : F76 n tree n_Path n_Kind n_Ports n_Serial = some r) : PureC Try.prog 76 [(.sl (.st (.pair (.sl (.int .i64)) (.pair (.int .i64) (.pair (.int .i64) (.int .i64))))) tree), (.st (.cons (.sl (.int .i64) n_Path) (.cons (.int .i64 n_Kind) (.cons (.int .i64 n_Ports) (.int .i64 n_Serial)))))] (.bool r) [] := by
  refine PureC.mkS Try.func76 rfl rfl ?_
  intro w0 fz0 hfz
  replace h : (bif ((IntKind.wrap .i64 (((n_Path.length : Nat) : Int) - (1 : Int))) == (0 : Int)) then (bif inb (0 : Int) n_Path.length then (some (decide ((n_Path.getD 0 (0 : Int)) ≤ (4 : Int)))) else none) else (loopF (F76_l2 n tree n_Path) n (0 : Int))) = some r := h
  refine TS.seq ?_
  have hq : (True) ∧ ((True) ∧ (True)) := ⟨trivial, ⟨trivial, trivial⟩⟩
  refine TS.reg [] ?_ ?_
  · apply prop_of ?_ hq
    kernel_rfl
  refine XS.then ?_
  refine TS.seq ?_
  have hq : (True) ∧ ((True) ∧ ((True) ∧ ((True) ∧ ((True) ∧ (True))))) := ⟨trivial, ⟨trivial, ⟨trivial, ⟨trivial, ⟨trivial, trivial⟩⟩⟩⟩⟩
  refine TS.reg [] ?_ ?_
  · apply prop_of ?_ hq
    kernel_rfl
  refine XS.then ?_
  refine TS.seq ?_
  refine TS.seq ?_
  have hq : (True) ∧ ((True) ∧ (True)) := ⟨trivial, ⟨trivial, trivial⟩⟩
  refine TS.reg [] ?_ ?_
  · apply prop_of ?_ hq
    kernel_rfl
  refine XS.then ?_
  rcases bif_some h with ⟨c1, h⟩ | ⟨c2, h⟩
  · refine TS.cond ((IntKind.wrap .i64 (((n_Path.length : Nat) : Int) - (1 : Int))) == (0 : Int)) ?_ (fun hcz => ?_) (fun hcz => by rw [c1] at hcz; cases hcz)
    · kernel_rfl
    refine TS.seq ?_
    obtain ⟨t3, h⟩ := test_some h
    have hq : (True) ∧ ((True) ∧ ((inR (0 : Int) n_Path.length) ∧ ((True) ∧ ((True) ∧ ((True) ∧ (True)))))) := ⟨trivial, ⟨trivial, ⟨inb_ok t3, ⟨trivial, ⟨trivial, ⟨trivial, trivial⟩⟩⟩⟩⟩⟩
    refine TS.reg [] ?_ ?_
    · apply prop_of ?_ hq
      kernel_rfl
    refine XS.then ?_
    refine TS.ret ?_
    refine XS.passR ?_
    obtain rfl : (decide ((n_Path.getD 0 (0 : Int)) ≤ (4 : Int))) = r := Option.some.inj h
    exact XS.fin [] ((True) ∧ (True)) (by kernel_rfl) ⟨trivial, trivial⟩
  · refine TS.cond ((IntKind.wrap .i64 (((n_Path.length : Nat) : Int) - (1 : Int))) == (0 : Int)) ?_ (fun hcz => by rw [c2] at hcz; cases hcz) (fun hcz => ?_)
    · kernel_rfl
    refine TS.skip ?_
    refine XS.then ?_
    refine TS.seq ?_
    refine TS.seq ?_
    have hq : (True) ∧ ((True) ∧ ((True) ∧ (True))) := ⟨trivial, ⟨trivial, ⟨trivial, trivial⟩⟩⟩
    refine TS.reg [] ?_ ?_
    · apply prop_of ?_ hq
      kernel_rfl
    refine XS.then ?_
    refine TS.block ?_
    refine TS.reLoop [0] (mkMask 46 [3, 5, 19, 20, 21]) (D := Int) (fun d => match d with | x => (mkTs 46 [(3, (.ptr 0 [])), (5, (.int .i64 (IntKind.wrap .i64 (((n_Path.length : Nat) : Int) - (1 : Int))))), (19, (.sl (.st (.pair (.sl (.int .i64)) (.pair (.int .i64) (.pair (.int .i64) (.int .i64))))) tree)), (20, (.int .i64 ((tree.length : Nat) : Int))), (21, (.int .i64 x))], [(.box 45 (.st (.cons (.sl (.int .i64) n_Path) (.cons (.int .i64 n_Kind) (.cons (.int .i64 n_Ports) (.int .i64 n_Serial))))))])) (fun n' d => loopF (F76_l2 n tree n_Path) n' d = some r) n (0 : Int) h ?_ (fun d => loopF_zero _ d r) ?_
    · kernel_rfl
    · rintro n2 x h
      replace h : (bif (decide (x < ((tree.length : Nat) : Int))) then (bif inb x tree.length then (bif ((tree.getD x.toNat (([] : List Int), ((0 : Int), ((0 : Int), (0 : Int))))).2.1 == (1 : Int)) then (bif subB n_Path.length none (some (IntKind.wrap .i64 (((n_Path.length : Nat) : Int) - (1 : Int)))) then ((F70 n ((tree.getD x.toNat (([] : List Int), ((0 : Int), ((0 : Int), (0 : Int))))).1) (n_Path.take (IntKind.wrap .i64 (((n_Path.length : Nat) : Int) - (1 : Int))).toNat)).bind fun y_2 => (bif y_2 then (bif inb (IntKind.wrap .i64 (((n_Path.length : Nat) : Int) - (1 : Int))) n_Path.length then (some (decide ((n_Path.getD ((IntKind.wrap .i64 (((n_Path.length : Nat) : Int) - (1 : Int))).toNat) (0 : Int)) ≤ (tree.getD x.toNat (([] : List Int), ((0 : Int), ((0 : Int), (0 : Int))))).2.2.1))) else none) else ((loopF (F76_l2 n tree n_Path) n2) (IntKind.wrap .i64 (x + (1 : Int)))))) else none) else ((loopF (F76_l2 n tree n_Path) n2) (IntKind.wrap .i64 (x + (1 : Int))))) else none) else (some false)) = some r := h
      refine TS.seq ?_
      have hq : (True) ∧ (True) := ⟨trivial, trivial⟩
      refine TS.reg [] ?_ ?_
      · apply prop_of ?_ hq
        kernel_rfl
      refine XS.then ?_
      refine TS.seq ?_
      rcases bif_some h with ⟨c4, h⟩ | ⟨c5, h⟩
      · refine TS.cond (decide (x < ((tree.length : Nat) : Int))) ?_ (fun hcz => ?_) (fun hcz => by rw [c4] at hcz; cases hcz)
        · kernel_rfl
        refine TS.skip ?_
        refine XS.then ?_
        refine TS.seq ?_
        refine TS.block ?_
        refine TS.seq ?_
        obtain ⟨t6, h⟩ := test_some h
        have hq : (inR x tree.length) ∧ ((True) ∧ ((True) ∧ ((True) ∧ (True)))) := ⟨inb_ok t6, ⟨trivial, ⟨trivial, ⟨trivial, trivial⟩⟩⟩⟩
        refine TS.reg [] ?_ ?_
        · apply prop_of ?_ hq
          kernel_rfl
        refine XS.then ?_
        refine TS.seq ?_
        rcases bif_some h with ⟨c7, h⟩ | ⟨c8, h⟩
        · obtain ⟨t9, h⟩ := test_some h
          obtain ⟨y_2, hx10, h⟩ := bind_some' h
          have hq : ((True) ∧ ((True) ∧ ((True) ∧ (((True) ∧ ((tree.getD x.toNat (([] : List Int), ((0 : Int), ((0 : Int), (0 : Int))))).2.1 == (1 : Int)) = true) ∧ ((True) ∧ ((True) ∧ ((True) ∧ ((True) ∧ ((True) ∧ ((subC n_Path.length none (some (IntKind.wrap .i64 (((n_Path.length : Nat) : Int) - (1 : Int))))) ∧ ((PureC Try.prog 70 [(.sl (.int .i64) (tree.getD x.toNat (([] : List Int), ((0 : Int), ((0 : Int), (0 : Int))))).1), (.sl (.int .i64) (n_Path.take (IntKind.wrap .i64 (((n_Path.length : Nat) : Int) - (1 : Int))).toNat))] (.bool y_2) []) ∧ ((True) ∧ (True))))))))))))) ∧ (True) := ⟨⟨trivial, ⟨trivial, ⟨trivial, ⟨⟨trivial, c7⟩, ⟨trivial, ⟨trivial, ⟨trivial, ⟨trivial, ⟨trivial, ⟨subB_ok t9, ⟨F70_ok n ((tree.getD x.toNat (([] : List Int), ((0 : Int), ((0 : Int), (0 : Int))))).1) (n_Path.take (IntKind.wrap .i64 (((n_Path.length : Nat) : Int) - (1 : Int))).toNat) y_2 hx10, ⟨trivial, trivial⟩⟩⟩⟩⟩⟩⟩⟩⟩⟩⟩⟩, trivial⟩
          refine TS.draw 12 [] [.none, .none, .none, .dec true, .none, .none, .none, .none, .none, .none, (.call (.bool y_2) [])] (by kernel_rfl) ?_ ?_
          · apply prop_of ?_ hq
            kernel_rfl
          refine XS.then ?_
          rcases bif_some h with ⟨c11, h⟩ | ⟨c12, h⟩
          · refine TS.cond y_2 ?_ (fun hcz => ?_) (fun hcz => by rw [c11] at hcz; cases hcz)
            · kernel_rfl
            refine TS.seq ?_
            obtain ⟨t13, h⟩ := test_some h
            have hq : ((True) ∧ ((True) ∧ ((True) ∧ ((inR (IntKind.wrap .i64 (((n_Path.length : Nat) : Int) - (1 : Int))) n_Path.length) ∧ ((True) ∧ ((True) ∧ ((True) ∧ ((True) ∧ (True))))))))) ∧ ((True) ∧ (True)) := ⟨⟨trivial, ⟨trivial, ⟨trivial, ⟨inb_ok t13, ⟨trivial, ⟨trivial, ⟨trivial, ⟨trivial, trivial⟩⟩⟩⟩⟩⟩⟩⟩, ⟨trivial, trivial⟩⟩
            refine TS.draw 8 [] [] (by kernel_rfl) ?_ ?_
            · apply prop_of ?_ hq
              kernel_rfl
            refine XS.then ?_
            refine TS.ret ?_
            refine XS.blockRet ?_
            refine XS.passR ?_
            refine XS.passR ?_
            refine XS.blockRet ?_
            refine XS.passR ?_
            obtain rfl : (decide ((n_Path.getD ((IntKind.wrap .i64 (((n_Path.length : Nat) : Int) - (1 : Int))).toNat) (0 : Int)) ≤ (tree.getD x.toNat (([] : List Int), ((0 : Int), ((0 : Int), (0 : Int))))).2.2.1)) = r := Option.some.inj h
            exact XS.fin [] ((True) ∧ (True)) (by kernel_rfl) ⟨trivial, trivial⟩
          · refine TS.cond y_2 ?_ (fun hcz => by rw [c12] at hcz; cases hcz) (fun hcz => ?_)
            · kernel_rfl
            refine TS.skip ?_
            refine XS.blockEnd ?_
            refine XS.then ?_
            have hq : (True) ∧ ((True) ∧ (True)) := ⟨trivial, ⟨trivial, trivial⟩⟩
            refine TS.reg [] ?_ ?_
            · apply prop_of ?_ hq
              kernel_rfl
            refine XS.reAny [0] (mkMask 46 [3, 5, 19, 20, 21]) (IntKind.wrap .i64 (x + (1 : Int))) h ?_
            kernel_rfl
        · have hq : ((True) ∧ ((True) ∧ ((True) ∧ (((True) ∧ ((tree.getD x.toNat (([] : List Int), ((0 : Int), ((0 : Int), (0 : Int))))).2.1 == (1 : Int)) = false) ∧ ((True) ∧ (True)))))) ∧ (True) := ⟨⟨trivial, ⟨trivial, ⟨trivial, ⟨⟨trivial, c8⟩, ⟨trivial, trivial⟩⟩⟩⟩⟩, trivial⟩
          refine TS.draw 12 [] [.none, .none, .none, .dec false] (by kernel_rfl) ?_ ?_
          · apply prop_of ?_ hq
            kernel_rfl
          refine XS.then ?_
          refine TS.no ?_ ?_
          · kernel_rfl
          refine TS.skip ?_
          refine XS.blockEnd ?_
          refine XS.then ?_
          have hq : (True) ∧ ((True) ∧ (True)) := ⟨trivial, ⟨trivial, trivial⟩⟩
          refine TS.reg [] ?_ ?_
          · apply prop_of ?_ hq
            kernel_rfl
          refine XS.reAny [0] (mkMask 46 [3, 5, 19, 20, 21]) (IntKind.wrap .i64 (x + (1 : Int))) h ?_
          kernel_rfl
      · refine TS.cond (decide (x < ((tree.length : Nat) : Int))) ?_ (fun hcz => by rw [c5] at hcz; cases hcz) (fun hcz => ?_)
        · kernel_rfl
        refine TS.exit ?_
        refine XS.passE ?_
        refine XS.passE ?_
        refine XS.out ?_
        refine XS.then ?_
        refine TS.seq ?_
        have hq : (True) ∧ (True) := ⟨trivial, trivial⟩
        refine TS.reg [] ?_ ?_
        · apply prop_of ?_ hq
          kernel_rfl
        refine XS.then ?_
        refine TS.ret ?_
        obtain rfl : false = r := Option.some.inj h
        exact XS.fin [] ((True) ∧ (True)) (by kernel_rfl) ⟨trivial, trivial⟩

/-! plugtree/plugref.Tree -/
def F25_l24 (n : Nat) (tree : List ((List Int) × Int × Int × Int)) (k25_24 : Int → Option Int) : Int → Option Int
  | x_3 => (bif (decide (x_3 < ((tree.length : Nat) : Int))) then (bif inb x_3 tree.length then ((F76 n tree ((tree.getD x_3.toNat (([] : List Int), ((0 : Int), ((0 : Int), (0 : Int))))).1) ((tree.getD x_3.toNat (([] : List Int), ((0 : Int), ((0 : Int), (0 : Int))))).2.1) ((tree.getD x_3.toNat (([] : List Int), ((0 : Int), ((0 : Int), (0 : Int))))).2.2.1) ((tree.getD x_3.toNat (([] : List Int), ((0 : Int), ((0 : Int), (0 : Int))))).2.2.2)).bind fun y_4 => (bif (!y_4) then (some (12 : Int)) else (k25_24 (IntKind.wrap .i64 (x_3 + (1 : Int)))))) else none) else (some (0 : Int)))
def F25_l23 (n : Nat) (tree : List ((List Int) × Int × Int × Int)) (k25_23 : Int → Option Int) : Int → Option Int
  | x_2 => (bif (decide (x_2 < ((tree.length : Nat) : Int))) then (bif inb x_2 tree.length then (bif (decide (x_2 > (0 : Int))) then (bif inb (IntKind.wrap .i64 (x_2 - (1 : Int))) tree.length then ((F75 n ((tree.getD ((IntKind.wrap .i64 (x_2 - (1 : Int))).toNat) (([] : List Int), ((0 : Int), ((0 : Int), (0 : Int))))).1) ((tree.getD x_2.toNat (([] : List Int), ((0 : Int), ((0 : Int), (0 : Int))))).1)).bind fun y_3 => (bif (!y_3) then (some (4 : Int)) else (k25_23 (IntKind.wrap .i64 (x_2 + (1 : Int)))))) else none) else (k25_23 (IntKind.wrap .i64 (x_2 + (1 : Int))))) else none) else (loopF (F25_l24 n tree) n (0 : Int)))
def F25_l20 (n : Nat) (tree : List ((List Int) × Int × Int × Int)) (k25_20 : Int → Option Int) : Int → Option Int
  | x => (bif (decide (x < ((tree.length : Nat) : Int))) then (bif inb x tree.length then ((F74 n ((tree.getD x.toNat (([] : List Int), ((0 : Int), ((0 : Int), (0 : Int))))).1) ((tree.getD x.toNat (([] : List Int), ((0 : Int), ((0 : Int), (0 : Int))))).2.1) ((tree.getD x.toNat (([] : List Int), ((0 : Int), ((0 : Int), (0 : Int))))).2.2.1) ((tree.getD x.toNat (([] : List Int), ((0 : Int), ((0 : Int), (0 : Int))))).2.2.2)).bind fun y_2 => (bif (!y_2) then (some (1 : Int)) else (k25_20 (IntKind.wrap .i64 (x + (1 : Int)))))) else none) else (loopF (F25_l23 n tree) n (0 : Int)))
def F25 (n : Nat) (tree : List ((List Int) × Int × Int × Int)) : Option Int := (bif (decide (((tree.length : Nat) : Int) > (40 : Int))) then (some (2 : Int)) else (loopF (F25_l20 n tree) n (0 : Int)))
theorem F25_ok (n : Nat) (tree : List ((List Int) × Int × Int × Int)) (r : Int) (h : F25 n tree = some r) : PureC Try.prog 25 [(.sl (.st (.pair (.sl (.int .i64)) (.pair (.int .i64) (.pair (.int .i64) (.int .i64))))) tree)] (.int .i64 r) [] := by
  refine PureC.mkS Try.func25 rfl rfl ?_
  intro w0 fz0 hfz
  replace h : (bif (decide (((tree.length : Nat) : Int) > (40 : Int))) then (some (2 : Int)) else (loopF (F25_l20 n tree) n (0 : Int))) = some r := h
  refine TS.seq ?_
  have hq : (True) ∧ (True) := ⟨trivial, trivial⟩
  refine TS.reg [] ?_ ?_
  · apply prop_of ?_ hq
    kernel_rfl
  refine XS.then ?_
  refine TS.seq ?_
  refine TS.seq ?_
  have hq : (True) ∧ ((True) ∧ ((True) ∧ (True))) := ⟨trivial, ⟨trivial, ⟨trivial, trivial⟩⟩⟩
  refine TS.reg [] ?_ ?_
  · apply prop_of ?_ hq
    kernel_rfl
  refine XS.then ?_
  rcases bif_some h with ⟨c1, h⟩ | ⟨c2, h⟩
  · refine TS.cond (decide (((tree.length : Nat) : Int) > (40 : Int))) ?_ (fun hcz => ?_) (fun hcz => by rw [c1] at hcz; cases hcz)
    · kernel_rfl
    refine TS.seq ?_
    have hq : (True) ∧ (True) := ⟨trivial, trivial⟩
    refine TS.reg [] ?_ ?_
    · apply prop_of ?_ hq
      kernel_rfl
    refine XS.then ?_
    refine TS.ret ?_
    refine XS.passR ?_
    obtain rfl : (2 : Int) = r := Option.some.inj h
    exact XS.fin [] ((True) ∧ (True)) (by kernel_rfl) ⟨trivial, trivial⟩
  · refine TS.cond (decide (((tree.length : Nat) : Int) > (40 : Int))) ?_ (fun hcz => by rw [c2] at hcz; cases hcz) (fun hcz => ?_)
    · kernel_rfl
    refine TS.skip ?_
    refine XS.then ?_
    refine TS.seq ?_
    refine TS.seq ?_
    have hq : (True) ∧ ((True) ∧ ((True) ∧ (True))) := ⟨trivial, ⟨trivial, ⟨trivial, trivial⟩⟩⟩
    refine TS.reg [] ?_ ?_
    · apply prop_of ?_ hq
      kernel_rfl
    refine XS.then ?_
    refine TS.block ?_
    refine TS.reLoop [] (mkMask 55 [0, 12, 13, 14]) (D := Int) (fun d => match d with | x => (mkTs 55 [(0, (.sl (.st (.pair (.sl (.int .i64)) (.pair (.int .i64) (.pair (.int .i64) (.int .i64))))) tree)), (12, (.sl (.st (.pair (.sl (.int .i64)) (.pair (.int .i64) (.pair (.int .i64) (.int .i64))))) tree)), (13, (.int .i64 ((tree.length : Nat) : Int))), (14, (.int .i64 x))], [])) (fun n' d => loopF (F25_l20 n tree) n' d = some r) n (0 : Int) h ?_ (fun d => loopF_zero _ d r) ?_
    · kernel_rfl
    · rintro n20 x h
      replace h : (bif (decide (x < ((tree.length : Nat) : Int))) then (bif inb x tree.length then ((F74 n ((tree.getD x.toNat (([] : List Int), ((0 : Int), ((0 : Int), (0 : Int))))).1) ((tree.getD x.toNat (([] : List Int), ((0 : Int), ((0 : Int), (0 : Int))))).2.1) ((tree.getD x.toNat (([] : List Int), ((0 : Int), ((0 : Int), (0 : Int))))).2.2.1) ((tree.getD x.toNat (([] : List Int), ((0 : Int), ((0 : Int), (0 : Int))))).2.2.2)).bind fun y_2 => (bif (!y_2) then (some (1 : Int)) else ((loopF (F25_l20 n tree) n20) (IntKind.wrap .i64 (x + (1 : Int)))))) else none) else (loopF (F25_l23 n tree) n (0 : Int))) = some r := h
      refine TS.seq ?_
      have hq : (True) ∧ (True) := ⟨trivial, trivial⟩
      refine TS.reg [] ?_ ?_
      · apply prop_of ?_ hq
        kernel_rfl
      refine XS.then ?_
      refine TS.seq ?_
      rcases bif_some h with ⟨c3, h⟩ | ⟨c4, h⟩
      · refine TS.cond (decide (x < ((tree.length : Nat) : Int))) ?_ (fun hcz => ?_) (fun hcz => by rw [c3] at hcz; cases hcz)
        · kernel_rfl
        refine TS.skip ?_
        refine XS.then ?_
        refine TS.seq ?_
        refine TS.block ?_
        refine TS.seq ?_
        obtain ⟨t5, h⟩ := test_some h
        have hq : (inR x tree.length) ∧ ((True) ∧ ((True) ∧ ((True) ∧ (True)))) := ⟨inb_ok t5, ⟨trivial, ⟨trivial, ⟨trivial, trivial⟩⟩⟩⟩
        refine TS.reg [] ?_ ?_
        · apply prop_of ?_ hq
          kernel_rfl
        refine XS.then ?_
        refine TS.seq ?_
        obtain ⟨y_2, hx6, h⟩ := bind_some' h
        have hq : (True) ∧ ((PureC Try.prog 74 [(.st (.cons (.sl (.int .i64) (tree.getD x.toNat (([] : List Int), ((0 : Int), ((0 : Int), (0 : Int))))).1) (.cons (.int .i64 (tree.getD x.toNat (([] : List Int), ((0 : Int), ((0 : Int), (0 : Int))))).2.1) (.cons (.int .i64 (tree.getD x.toNat (([] : List Int), ((0 : Int), ((0 : Int), (0 : Int))))).2.2.1) (.int .i64 (tree.getD x.toNat (([] : List Int), ((0 : Int), ((0 : Int), (0 : Int))))).2.2.2)))))] (.bool y_2) []) ∧ ((True) ∧ (True))) := ⟨trivial, ⟨F74_ok n ((tree.getD x.toNat (([] : List Int), ((0 : Int), ((0 : Int), (0 : Int))))).1) ((tree.getD x.toNat (([] : List Int), ((0 : Int), ((0 : Int), (0 : Int))))).2.1) ((tree.getD x.toNat (([] : List Int), ((0 : Int), ((0 : Int), (0 : Int))))).2.2.1) ((tree.getD x.toNat (([] : List Int), ((0 : Int), ((0 : Int), (0 : Int))))).2.2.2) y_2 hx6, ⟨trivial, trivial⟩⟩⟩
        refine TS.reg [.none, (.call (.bool y_2) [])] ?_ ?_
        · apply prop_of ?_ hq
          kernel_rfl
        refine XS.then ?_
        rcases bif_some h with ⟨c7, h⟩ | ⟨c8, h⟩
        · refine TS.cond (!y_2) ?_ (fun hcz => ?_) (fun hcz => by rw [c7] at hcz; cases hcz)
          · kernel_rfl
          refine TS.seq ?_
          have hq : (True) ∧ (True) := ⟨trivial, trivial⟩
          refine TS.reg [] ?_ ?_
          · apply prop_of ?_ hq
            kernel_rfl
          refine XS.then ?_
          refine TS.ret ?_
          refine XS.blockRet ?_
          refine XS.passR ?_
          refine XS.passR ?_
          refine XS.blockRet ?_
          refine XS.passR ?_
          obtain rfl : (1 : Int) = r := Option.some.inj h
          exact XS.fin [] ((True) ∧ (True)) (by kernel_rfl) ⟨trivial, trivial⟩
        · refine TS.cond (!y_2) ?_ (fun hcz => by rw [c8] at hcz; cases hcz) (fun hcz => ?_)
          · kernel_rfl
          refine TS.skip ?_
          refine XS.blockEnd ?_
          refine XS.then ?_
          have hq : (True) ∧ ((True) ∧ (True)) := ⟨trivial, ⟨trivial, trivial⟩⟩
          refine TS.reg [] ?_ ?_
          · apply prop_of ?_ hq
            kernel_rfl
          refine XS.reAny [] (mkMask 55 [0, 12, 13, 14]) (IntKind.wrap .i64 (x + (1 : Int))) h ?_
          kernel_rfl
      · refine TS.cond (decide (x < ((tree.length : Nat) : Int))) ?_ (fun hcz => by rw [c4] at hcz; cases hcz) (fun hcz => ?_)
        · kernel_rfl
        refine TS.exit ?_
        refine XS.passE ?_
        refine XS.passE ?_
        refine XS.out ?_
        refine XS.then ?_
        refine TS.seq ?_
        refine TS.seq ?_
        have hq : (True) ∧ ((True) ∧ ((True) ∧ (True))) := ⟨trivial, ⟨trivial, ⟨trivial, trivial⟩⟩⟩
        refine TS.reg [] ?_ ?_
        · apply prop_of ?_ hq
          kernel_rfl
        refine XS.then ?_
        refine TS.block ?_
        refine TS.reLoop [] (mkMask 55 [0, 22, 23, 24]) (D := Int) (fun d => match d with | x_2 => (mkTs 55 [(0, (.sl (.st (.pair (.sl (.int .i64)) (.pair (.int .i64) (.pair (.int .i64) (.int .i64))))) tree)), (22, (.sl (.st (.pair (.sl (.int .i64)) (.pair (.int .i64) (.pair (.int .i64) (.int .i64))))) tree)), (23, (.int .i64 ((tree.length : Nat) : Int))), (24, (.int .i64 x_2))], [])) (fun n' d => loopF (F25_l23 n tree) n' d = some r) n (0 : Int) h ?_ (fun d => loopF_zero _ d r) ?_
        · kernel_rfl
        · rintro n23 x_2 h
          replace h : (bif (decide (x_2 < ((tree.length : Nat) : Int))) then (bif inb x_2 tree.length then (bif (decide (x_2 > (0 : Int))) then (bif inb (IntKind.wrap .i64 (x_2 - (1 : Int))) tree.length then ((F75 n ((tree.getD ((IntKind.wrap .i64 (x_2 - (1 : Int))).toNat) (([] : List Int), ((0 : Int), ((0 : Int), (0 : Int))))).1) ((tree.getD x_2.toNat (([] : List Int), ((0 : Int), ((0 : Int), (0 : Int))))).1)).bind fun y_3 => (bif (!y_3) then (some (4 : Int)) else ((loopF (F25_l23 n tree) n23) (IntKind.wrap .i64 (x_2 + (1 : Int)))))) else none) else ((loopF (F25_l23 n tree) n23) (IntKind.wrap .i64 (x_2 + (1 : Int))))) else none) else (loopF (F25_l24 n tree) n (0 : Int))) = some r := h
          refine TS.seq ?_
          have hq : (True) ∧ (True) := ⟨trivial, trivial⟩
          refine TS.reg [] ?_ ?_
          · apply prop_of ?_ hq
            kernel_rfl
          refine XS.then ?_
          refine TS.seq ?_
          rcases bif_some h with ⟨c9, h⟩ | ⟨c10, h⟩
          · refine TS.cond (decide (x_2 < ((tree.length : Nat) : Int))) ?_ (fun hcz => ?_) (fun hcz => by rw [c9] at hcz; cases hcz)
            · kernel_rfl
            refine TS.skip ?_
            refine XS.then ?_
            refine TS.seq ?_
            refine TS.block ?_
            refine TS.seq ?_
            obtain ⟨t11, h⟩ := test_some h
            have hq : (True) ∧ ((inR x_2 tree.length) ∧ ((True) ∧ ((True) ∧ ((True) ∧ ((True) ∧ (True)))))) := ⟨trivial, ⟨inb_ok t11, ⟨trivial, ⟨trivial, ⟨trivial, ⟨trivial, trivial⟩⟩⟩⟩⟩⟩
            refine TS.reg [] ?_ ?_
            · apply prop_of ?_ hq
              kernel_rfl
            refine XS.then ?_
            refine TS.seq ?_
            rcases bif_some h with ⟨c12, h⟩ | ⟨c13, h⟩
            · obtain ⟨t14, h⟩ := test_some h
              obtain ⟨y_3, hx15, h⟩ := bind_some' h
              have hq : ((True) ∧ ((True) ∧ (((True) ∧ (decide (x_2 > (0 : Int))) = true) ∧ ((True) ∧ ((True) ∧ ((True) ∧ ((inR (IntKind.wrap .i64 (x_2 - (1 : Int))) tree.length) ∧ ((True) ∧ ((True) ∧ ((True) ∧ ((True) ∧ ((PureC Try.prog 75 [(.sl (.int .i64) (tree.getD ((IntKind.wrap .i64 (x_2 - (1 : Int))).toNat) (([] : List Int), ((0 : Int), ((0 : Int), (0 : Int))))).1), (.sl (.int .i64) (tree.getD x_2.toNat (([] : List Int), ((0 : Int), ((0 : Int), (0 : Int))))).1)] (.bool y_3) []) ∧ ((True) ∧ ((True) ∧ (True))))))))))))))) ∧ (True) := ⟨⟨trivial, ⟨trivial, ⟨⟨trivial, c12⟩, ⟨trivial, ⟨trivial, ⟨trivial, ⟨inb_ok t14, ⟨trivial, ⟨trivial, ⟨trivial, ⟨trivial, ⟨F75_ok n ((tree.getD ((IntKind.wrap .i64 (x_2 - (1 : Int))).toNat) (([] : List Int), ((0 : Int), ((0 : Int), (0 : Int))))).1) ((tree.getD x_2.toNat (([] : List Int), ((0 : Int), ((0 : Int), (0 : Int))))).1) y_3 hx15, ⟨trivial, ⟨trivial, trivial⟩⟩⟩⟩⟩⟩⟩⟩⟩⟩⟩⟩⟩⟩, trivial⟩
              refine TS.draw 14 [] [.none, .none, .dec true, .none, .none, .none, .none, .none, .none, .none, .none, (.call (.bool y_3) [])] (by kernel_rfl) ?_ ?_
              · apply prop_of ?_ hq
                kernel_rfl
              refine XS.then ?_
              rcases bif_some h with ⟨c16, h⟩ | ⟨c17, h⟩
              · refine TS.cond (!y_3) ?_ (fun hcz => ?_) (fun hcz => by rw [c16] at hcz; cases hcz)
                · kernel_rfl
                refine TS.seq ?_
                have hq : (True) ∧ (True) := ⟨trivial, trivial⟩
                refine TS.reg [] ?_ ?_
                · apply prop_of ?_ hq
                  kernel_rfl
                refine XS.then ?_
                refine TS.ret ?_
                refine XS.blockRet ?_
                refine XS.passR ?_
                refine XS.passR ?_
                refine XS.blockRet ?_
                refine XS.passR ?_
                obtain rfl : (4 : Int) = r := Option.some.inj h
                exact XS.fin [] ((True) ∧ (True)) (by kernel_rfl) ⟨trivial, trivial⟩
              · refine TS.cond (!y_3) ?_ (fun hcz => by rw [c17] at hcz; cases hcz) (fun hcz => ?_)
                · kernel_rfl
                refine TS.skip ?_
                refine XS.blockEnd ?_
                refine XS.then ?_
                have hq : (True) ∧ ((True) ∧ (True)) := ⟨trivial, ⟨trivial, trivial⟩⟩
                refine TS.reg [] ?_ ?_
                · apply prop_of ?_ hq
                  kernel_rfl
                refine XS.reAny [] (mkMask 55 [0, 22, 23, 24]) (IntKind.wrap .i64 (x_2 + (1 : Int))) h ?_
                kernel_rfl
            · have hq : ((True) ∧ ((True) ∧ (((True) ∧ (decide (x_2 > (0 : Int))) = false) ∧ ((True) ∧ (True))))) ∧ (True) := ⟨⟨trivial, ⟨trivial, ⟨⟨trivial, c13⟩, ⟨trivial, trivial⟩⟩⟩⟩, trivial⟩
              refine TS.draw 14 [] [.none, .none, .dec false] (by kernel_rfl) ?_ ?_
              · apply prop_of ?_ hq
                kernel_rfl
              refine XS.then ?_
              refine TS.no ?_ ?_
              · kernel_rfl
              refine TS.skip ?_
              refine XS.blockEnd ?_
              refine XS.then ?_
              have hq : (True) ∧ ((True) ∧ (True)) := ⟨trivial, ⟨trivial, trivial⟩⟩
              refine TS.reg [] ?_ ?_
              · apply prop_of ?_ hq
                kernel_rfl
              refine XS.reAny [] (mkMask 55 [0, 22, 23, 24]) (IntKind.wrap .i64 (x_2 + (1 : Int))) h ?_
              kernel_rfl
          · refine TS.cond (decide (x_2 < ((tree.length : Nat) : Int))) ?_ (fun hcz => by rw [c10] at hcz; cases hcz) (fun hcz => ?_)
            · kernel_rfl
            refine TS.exit ?_
            refine XS.passE ?_
            refine XS.passE ?_
            refine XS.out ?_
            refine XS.then ?_
            refine TS.seq ?_
            refine TS.seq ?_
            have hq : (True) ∧ ((True) ∧ ((True) ∧ (True))) := ⟨trivial, ⟨trivial, ⟨trivial, trivial⟩⟩⟩
            refine TS.reg [] ?_ ?_
            · apply prop_of ?_ hq
              kernel_rfl
            refine XS.then ?_
            refine TS.block ?_
            refine TS.reLoop [] (mkMask 55 [0, 44, 45, 46]) (D := Int) (fun d => match d with | x_3 => (mkTs 55 [(0, (.sl (.st (.pair (.sl (.int .i64)) (.pair (.int .i64) (.pair (.int .i64) (.int .i64))))) tree)), (44, (.sl (.st (.pair (.sl (.int .i64)) (.pair (.int .i64) (.pair (.int .i64) (.int .i64))))) tree)), (45, (.int .i64 ((tree.length : Nat) : Int))), (46, (.int .i64 x_3))], [])) (fun n' d => loopF (F25_l24 n tree) n' d = some r) n (0 : Int) h ?_ (fun d => loopF_zero _ d r) ?_
            · kernel_rfl
            · rintro n24 x_3 h
              replace h : (bif (decide (x_3 < ((tree.length : Nat) : Int))) then (bif inb x_3 tree.length then ((F76 n tree ((tree.getD x_3.toNat (([] : List Int), ((0 : Int), ((0 : Int), (0 : Int))))).1) ((tree.getD x_3.toNat (([] : List Int), ((0 : Int), ((0 : Int), (0 : Int))))).2.1) ((tree.getD x_3.toNat (([] : List Int), ((0 : Int), ((0 : Int), (0 : Int))))).2.2.1) ((tree.getD x_3.toNat (([] : List Int), ((0 : Int), ((0 : Int), (0 : Int))))).2.2.2)).bind fun y_4 => (bif (!y_4) then (some (12 : Int)) else ((loopF (F25_l24 n tree) n24) (IntKind.wrap .i64 (x_3 + (1 : Int)))))) else none) else (some (0 : Int))) = some r := h
              refine TS.seq ?_
              have hq : (True) ∧ (True) := ⟨trivial, trivial⟩
              refine TS.reg [] ?_ ?_
              · apply prop_of ?_ hq
                kernel_rfl
              refine XS.then ?_
              refine TS.seq ?_
              rcases bif_some h with ⟨c18, h⟩ | ⟨c19, h⟩
              · refine TS.cond (decide (x_3 < ((tree.length : Nat) : Int))) ?_ (fun hcz => ?_) (fun hcz => by rw [c18] at hcz; cases hcz)
                · kernel_rfl
                refine TS.skip ?_
                refine XS.then ?_
                refine TS.seq ?_
                refine TS.block ?_
                refine TS.seq ?_
                obtain ⟨t20, h⟩ := test_some h
                have hq : (inR x_3 tree.length) ∧ ((True) ∧ ((True) ∧ ((True) ∧ (True)))) := ⟨inb_ok t20, ⟨trivial, ⟨trivial, ⟨trivial, trivial⟩⟩⟩⟩
                refine TS.reg [] ?_ ?_
                · apply prop_of ?_ hq
                  kernel_rfl
                refine XS.then ?_
                refine TS.seq ?_
                obtain ⟨y_4, hx21, h⟩ := bind_some' h
                have hq : (True) ∧ ((True) ∧ ((PureC Try.prog 76 [(.sl (.st (.pair (.sl (.int .i64)) (.pair (.int .i64) (.pair (.int .i64) (.int .i64))))) tree), (.st (.cons (.sl (.int .i64) (tree.getD x_3.toNat (([] : List Int), ((0 : Int), ((0 : Int), (0 : Int))))).1) (.cons (.int .i64 (tree.getD x_3.toNat (([] : List Int), ((0 : Int), ((0 : Int), (0 : Int))))).2.1) (.cons (.int .i64 (tree.getD x_3.toNat (([] : List Int), ((0 : Int), ((0 : Int), (0 : Int))))).2.2.1) (.int .i64 (tree.getD x_3.toNat (([] : List Int), ((0 : Int), ((0 : Int), (0 : Int))))).2.2.2)))))] (.bool y_4) []) ∧ ((True) ∧ (True)))) := ⟨trivial, ⟨trivial, ⟨F76_ok n tree ((tree.getD x_3.toNat (([] : List Int), ((0 : Int), ((0 : Int), (0 : Int))))).1) ((tree.getD x_3.toNat (([] : List Int), ((0 : Int), ((0 : Int), (0 : Int))))).2.1) ((tree.getD x_3.toNat (([] : List Int), ((0 : Int), ((0 : Int), (0 : Int))))).2.2.1) ((tree.getD x_3.toNat (([] : List Int), ((0 : Int), ((0 : Int), (0 : Int))))).2.2.2) y_4 hx21, ⟨trivial, trivial⟩⟩⟩⟩
                refine TS.reg [.none, .none, (.call (.bool y_4) [])] ?_ ?_
                · apply prop_of ?_ hq
                  kernel_rfl
                refine XS.then ?_
                rcases bif_some h with ⟨c22, h⟩ | ⟨c23, h⟩
                · refine TS.cond (!y_4) ?_ (fun hcz => ?_) (fun hcz => by rw [c22] at hcz; cases hcz)
                  · kernel_rfl
                  refine TS.seq ?_
                  have hq : (True) ∧ (True) := ⟨trivial, trivial⟩
                  refine TS.reg [] ?_ ?_
                  · apply prop_of ?_ hq
                    kernel_rfl
                  refine XS.then ?_
                  refine TS.ret ?_
                  refine XS.blockRet ?_
                  refine XS.passR ?_
                  refine XS.passR ?_
                  refine XS.blockRet ?_
                  refine XS.passR ?_
                  obtain rfl : (12 : Int) = r := Option.some.inj h
                  exact XS.fin [] ((True) ∧ (True)) (by kernel_rfl) ⟨trivial, trivial⟩
                · refine TS.cond (!y_4) ?_ (fun hcz => by rw [c23] at hcz; cases hcz) (fun hcz => ?_)
                  · kernel_rfl
                  refine TS.skip ?_
                  refine XS.blockEnd ?_
                  refine XS.then ?_
                  have hq : (True) ∧ ((True) ∧ (True)) := ⟨trivial, ⟨trivial, trivial⟩⟩
                  refine TS.reg [] ?_ ?_
                  · apply prop_of ?_ hq
                    kernel_rfl
                  refine XS.reAny [] (mkMask 55 [0, 44, 45, 46]) (IntKind.wrap .i64 (x_3 + (1 : Int))) h ?_
                  kernel_rfl
              · refine TS.cond (decide (x_3 < ((tree.length : Nat) : Int))) ?_ (fun hcz => by rw [c19] at hcz; cases hcz) (fun hcz => ?_)
                · kernel_rfl
                refine TS.exit ?_
                refine XS.passE ?_
                refine XS.passE ?_
                refine XS.out ?_
                refine XS.then ?_
                refine TS.seq ?_
                have hq : (True) ∧ (True) := ⟨trivial, trivial⟩
                refine TS.reg [] ?_ ?_
                · apply prop_of ?_ hq
                  kernel_rfl
                refine XS.then ?_
                refine TS.ret ?_
                obtain rfl : (0 : Int) = r := Option.some.inj h
                exact XS.fin [] ((True) ∧ (True)) (by kernel_rfl) ⟨trivial, trivial⟩

/-! plugtree/plugref.SameNode -/
def F26 (n : Nat) (a_Path : List Int) (a_Kind : Int) (a_Ports : Int) (a_Serial : Int) (b_Path : List Int) (b_Kind : Int) (b_Ports : Int) (b_Serial : Int) : Option Bool := ((F70 n a_Path b_Path).bind fun y_2 => (bif y_2 then (bif (a_Kind == b_Kind) then (bif (a_Ports == b_Ports) then (some (a_Serial == b_Serial)) else (some false)) else (some false)) else (some false)))
theorem F26_ok (n : Nat) (a_Path : List Int) (a_Kind : Int) (a_Ports : Int) (a_Serial : Int) (b_Path : List Int) (b_Kind : Int) (b_Ports : Int) (b_Serial : Int) (r : Bool) (h : F26 n a_Path a_Kind a_Ports a_Serial b_Path b_Kind b_Ports b_Serial = some r) : PureC Try.prog 26 [(.st (.cons (.sl (.int .i64) a_Path) (.cons (.int .i64 a_Kind) (.cons (.int .i64 a_Ports) (.int .i64 a_Serial))))), (.st (.cons (.sl (.int .i64) b_Path) (.cons (.int .i64 b_Kind) (.cons (.int .i64 b_Ports) (.int .i64 b_Serial)))))] (.bool r) [] := by
  refine PureC.mkS Try.func26 rfl rfl ?_
  intro w0 fz0 hfz
  replace h : ((F70 n a_Path b_Path).bind fun y_2 => (bif y_2 then (bif (a_Kind == b_Kind) then (bif (a_Ports == b_Ports) then (some (a_Serial == b_Serial)) else (some false)) else (some false)) else (some false))) = some r := h
  refine TS.seq ?_
  have hq : (True) ∧ ((True) ∧ ((True) ∧ (True))) := ⟨trivial, ⟨trivial, ⟨trivial, trivial⟩⟩⟩
  refine TS.reg [] ?_ ?_
  · apply prop_of ?_ hq
    kernel_rfl
  refine XS.then ?_
  refine TS.seq ?_
  obtain ⟨y_2, hx1, h⟩ := bind_some' h
  rcases bif_some h with ⟨c2, h⟩ | ⟨c3, h⟩
  · rcases bif_some h with ⟨c4, h⟩ | ⟨c5, h⟩
    · rcases bif_some h with ⟨c6, h⟩ | ⟨c7, h⟩
      · have hq : (True) ∧ ((True) ∧ ((True) ∧ ((True) ∧ ((PureC Try.prog 70 [(.sl (.int .i64) a_Path), (.sl (.int .i64) b_Path)] (.bool y_2) []) ∧ (((True) ∧ y_2 = true) ∧ ((True) ∧ ((True) ∧ ((True) ∧ ((True) ∧ ((True) ∧ ((True) ∧ (((True) ∧ (a_Kind == b_Kind) = true) ∧ ((True) ∧ ((True) ∧ ((True) ∧ ((True) ∧ ((True) ∧ ((True) ∧ (((True) ∧ (a_Ports == b_Ports) = true) ∧ ((True) ∧ ((True) ∧ ((True) ∧ ((True) ∧ ((True) ∧ ((True) ∧ ((True) ∧ (True))))))))))))))))))))))))))) := ⟨trivial, ⟨trivial, ⟨trivial, ⟨trivial, ⟨F70_ok n a_Path b_Path y_2 hx1, ⟨⟨trivial, c2⟩, ⟨trivial, ⟨trivial, ⟨trivial, ⟨trivial, ⟨trivial, ⟨trivial, ⟨⟨trivial, c4⟩, ⟨trivial, ⟨trivial, ⟨trivial, ⟨trivial, ⟨trivial, ⟨trivial, ⟨⟨trivial, c6⟩, ⟨trivial, ⟨trivial, ⟨trivial, ⟨trivial, ⟨trivial, ⟨trivial, ⟨trivial, trivial⟩⟩⟩⟩⟩⟩⟩⟩⟩⟩⟩⟩⟩⟩⟩⟩⟩⟩⟩⟩⟩⟩⟩⟩⟩⟩⟩
        refine TS.reg [.none, .none, .none, .none, (.call (.bool y_2) []), .dec true, .none, .none, .none, .none, .none, .none, .dec true, .none, .none, .none, .none, .none, .none, .dec true] ?_ ?_
        · apply prop_of ?_ hq
          kernel_rfl
        refine XS.then ?_
        refine TS.ret ?_
        obtain rfl : (a_Serial == b_Serial) = r := Option.some.inj h
        exact XS.fin [] ((True) ∧ (True)) (by kernel_rfl) ⟨trivial, trivial⟩
      · have hq : (True) ∧ ((True) ∧ ((True) ∧ ((True) ∧ ((PureC Try.prog 70 [(.sl (.int .i64) a_Path), (.sl (.int .i64) b_Path)] (.bool y_2) []) ∧ (((True) ∧ y_2 = true) ∧ ((True) ∧ ((True) ∧ ((True) ∧ ((True) ∧ ((True) ∧ ((True) ∧ (((True) ∧ (a_Kind == b_Kind) = true) ∧ ((True) ∧ ((True) ∧ ((True) ∧ ((True) ∧ ((True) ∧ ((True) ∧ (((True) ∧ (a_Ports == b_Ports) = false) ∧ ((True) ∧ ((True) ∧ (True)))))))))))))))))))))) := ⟨trivial, ⟨trivial, ⟨trivial, ⟨trivial, ⟨F70_ok n a_Path b_Path y_2 hx1, ⟨⟨trivial, c2⟩, ⟨trivial, ⟨trivial, ⟨trivial, ⟨trivial, ⟨trivial, ⟨trivial, ⟨⟨trivial, c4⟩, ⟨trivial, ⟨trivial, ⟨trivial, ⟨trivial, ⟨trivial, ⟨trivial, ⟨⟨trivial, c7⟩, ⟨trivial, ⟨trivial, trivial⟩⟩⟩⟩⟩⟩⟩⟩⟩⟩⟩⟩⟩⟩⟩⟩⟩⟩⟩⟩⟩⟩
        refine TS.reg [.none, .none, .none, .none, (.call (.bool y_2) []), .dec true, .none, .none, .none, .none, .none, .none, .dec true, .none, .none, .none, .none, .none, .none, .dec false] ?_ ?_
        · apply prop_of ?_ hq
          kernel_rfl
        refine XS.then ?_
        refine TS.ret ?_
        obtain rfl : false = r := Option.some.inj h
        exact XS.fin [] ((True) ∧ (True)) (by kernel_rfl) ⟨trivial, trivial⟩
    · have hq : (True) ∧ ((True) ∧ ((True) ∧ ((True) ∧ ((PureC Try.prog 70 [(.sl (.int .i64) a_Path), (.sl (.int .i64) b_Path)] (.bool y_2) []) ∧ (((True) ∧ y_2 = true) ∧ ((True) ∧ ((True) ∧ ((True) ∧ ((True) ∧ ((True) ∧ ((True) ∧ (((True) ∧ (a_Kind == b_Kind) = false) ∧ ((True) ∧ ((True) ∧ ((True) ∧ ((True) ∧ (True))))))))))))))))) := ⟨trivial, ⟨trivial, ⟨trivial, ⟨trivial, ⟨F70_ok n a_Path b_Path y_2 hx1, ⟨⟨trivial, c2⟩, ⟨trivial, ⟨trivial, ⟨trivial, ⟨trivial, ⟨trivial, ⟨trivial, ⟨⟨trivial, c5⟩, ⟨trivial, ⟨trivial, ⟨trivial, ⟨trivial, trivial⟩⟩⟩⟩⟩⟩⟩⟩⟩⟩⟩⟩⟩⟩⟩⟩⟩
      refine TS.reg [.none, .none, .none, .none, (.call (.bool y_2) []), .dec true, .none, .none, .none, .none, .none, .none, .dec false] ?_ ?_
      · apply prop_of ?_ hq
        kernel_rfl
      refine XS.then ?_
      refine TS.ret ?_
      obtain rfl : false = r := Option.some.inj h
      exact XS.fin [] ((True) ∧ (True)) (by kernel_rfl) ⟨trivial, trivial⟩
  · have hq : (True) ∧ ((True) ∧ ((True) ∧ ((True) ∧ ((PureC Try.prog 70 [(.sl (.int .i64) a_Path), (.sl (.int .i64) b_Path)] (.bool y_2) []) ∧ (((True) ∧ y_2 = false) ∧ ((True) ∧ ((True) ∧ ((True) ∧ ((True) ∧ ((True) ∧ ((True) ∧ (True)))))))))))) := ⟨trivial, ⟨trivial, ⟨trivial, ⟨trivial, ⟨F70_ok n a_Path b_Path y_2 hx1, ⟨⟨trivial, c3⟩, ⟨trivial, ⟨trivial, ⟨trivial, ⟨trivial, ⟨trivial, ⟨trivial, trivial⟩⟩⟩⟩⟩⟩⟩⟩⟩⟩⟩⟩
    refine TS.reg [.none, .none, .none, .none, (.call (.bool y_2) []), .dec false] ?_ ?_
    · apply prop_of ?_ hq
      kernel_rfl
    refine XS.then ?_
    refine TS.ret ?_
    obtain rfl : false = r := Option.some.inj h
    exact XS.fin [] ((True) ∧ (True)) (by kernel_rfl) ⟨trivial, trivial⟩

/-! plugtree/pluglaw.TopoChecks -/
def F5 (n : Nat) (tree : List ((List Int) × Int × Int × Int)) (path : List Int) : Option Bool := ((F22 n tree path).bind fun y_2 => ((F23 n tree path).bind fun y_3 => ((F24 n tree).bind fun y_4 => ((F25 n tree).bind fun y_5 => (bif (y_4 == y_5) then ((F26 n y_2.2.2.2.2 y_2.1 y_2.2.1 y_2.2.2.1 y_3.1 y_3.2.1 y_3.2.2.1 y_3.2.2.2.1).bind fun y_6 => (bif y_6 then (some (y_2.2.2.2.1 == y_3.2.2.2.2)) else (some false))) else (some false))))))
theorem F5_ok (n : Nat) (tree : List ((List Int) × Int × Int × Int)) (path : List Int) (r : Bool) (h : F5 n tree path = some r) : PureC Try.prog 5 [(.sl (.st (.pair (.sl (.int .i64)) (.pair (.int .i64) (.pair (.int .i64) (.int .i64))))) tree), (.sl (.int .i64) path)] (.bool r) [] := by
  refine PureC.mkS Try.func5 rfl rfl ?_
  intro w0 fz0 hfz
  replace h : ((F22 n tree path).bind fun y_2 => ((F23 n tree path).bind fun y_3 => ((F24 n tree).bind fun y_4 => ((F25 n tree).bind fun y_5 => (bif (y_4 == y_5) then ((F26 n y_2.2.2.2.2 y_2.1 y_2.2.1 y_2.2.2.1 y_3.1 y_3.2.1 y_3.2.2.1 y_3.2.2.2.1).bind fun y_6 => (bif y_6 then (some (y_2.2.2.2.1 == y_3.2.2.2.2)) else (some false))) else (some false)))))) = some r := h
  refine TS.seq ?_
  have hq : (True) ∧ (True) := ⟨trivial, trivial⟩
  refine TS.reg [] ?_ ?_
  · apply prop_of ?_ hq
    kernel_rfl
  refine XS.then ?_
  refine TS.seq ?_
  obtain ⟨y_2, hx1, h⟩ := bind_some' h
  have hq : (True) ∧ ((True) ∧ ((PureC Try.prog 22 [(.sl (.st (.pair (.sl (.int .i64)) (.pair (.int .i64) (.pair (.int .i64) (.int .i64))))) tree), (.sl (.int .i64) path)] (.tup (.cons (.st (.cons (.row 0) (.cons (.int .i64 y_2.1) (.cons (.int .i64 y_2.2.1) (.int .i64 y_2.2.2.1))))) (.cons (.bool y_2.2.2.2.1) .nil))) [(.row 3 (.int .i64) y_2.2.2.2.2)]) ∧ ((True) ∧ ((True) ∧ ((True) ∧ ((True) ∧ ((True) ∧ ((True) ∧ (True))))))))) := ⟨trivial, ⟨trivial, ⟨F22_ok n tree path y_2 hx1, ⟨trivial, ⟨trivial, ⟨trivial, ⟨trivial, ⟨trivial, ⟨trivial, trivial⟩⟩⟩⟩⟩⟩⟩⟩⟩
  refine TS.reg [.none, .none, (.call (.tup (.cons (.st (.cons (.row 0) (.cons (.int .i64 y_2.1) (.cons (.int .i64 y_2.2.1) (.int .i64 y_2.2.2.1))))) (.cons (.bool y_2.2.2.2.1) .nil))) [(.row 3 (.int .i64) y_2.2.2.2.2)])] ?_ ?_
  · apply prop_of ?_ hq
    kernel_rfl
  refine XS.then ?_
  refine TS.seq ?_
  obtain ⟨y_3, hx2, h⟩ := bind_some' h
  have hq : (True) ∧ ((True) ∧ ((PureC Try.prog 23 [(.sl (.st (.pair (.sl (.int .i64)) (.pair (.int .i64) (.pair (.int .i64) (.int .i64))))) tree), (.sl (.int .i64) path)] (.tup (.cons (.st (.cons (.sl (.int .i64) y_3.1) (.cons (.int .i64 y_3.2.1) (.cons (.int .i64 y_3.2.2.1) (.int .i64 y_3.2.2.2.1))))) (.cons (.bool y_3.2.2.2.2) .nil))) []) ∧ ((True) ∧ ((True) ∧ ((True) ∧ ((True) ∧ ((True) ∧ ((True) ∧ (True))))))))) := ⟨trivial, ⟨trivial, ⟨F23_ok n tree path y_3 hx2, ⟨trivial, ⟨trivial, ⟨trivial, ⟨trivial, ⟨trivial, ⟨trivial, trivial⟩⟩⟩⟩⟩⟩⟩⟩⟩
  refine TS.reg [.none, .none, (.call (.tup (.cons (.st (.cons (.sl (.int .i64) y_3.1) (.cons (.int .i64 y_3.2.1) (.cons (.int .i64 y_3.2.2.1) (.int .i64 y_3.2.2.2.1))))) (.cons (.bool y_3.2.2.2.2) .nil))) [])] ?_ ?_
  · apply prop_of ?_ hq
    kernel_rfl
  refine XS.then ?_
  refine TS.seq ?_
  obtain ⟨y_4, hx3, h⟩ := bind_some' h
  obtain ⟨y_5, hx4, h⟩ := bind_some' h
  rcases bif_some h with ⟨c5, h⟩ | ⟨c6, h⟩
  · obtain ⟨y_6, hx7, h⟩ := bind_some' h
    rcases bif_some h with ⟨c8, h⟩ | ⟨c9, h⟩
    · have hq : (True) ∧ ((PureC Try.prog 24 [(.sl (.st (.pair (.sl (.int .i64)) (.pair (.int .i64) (.pair (.int .i64) (.int .i64))))) tree)] (.int .i64 y_4) []) ∧ ((True) ∧ ((PureC Try.prog 25 [(.sl (.st (.pair (.sl (.int .i64)) (.pair (.int .i64) (.pair (.int .i64) (.int .i64))))) tree)] (.int .i64 y_5) []) ∧ ((True) ∧ (((True) ∧ (y_4 == y_5) = true) ∧ ((True) ∧ ((True) ∧ (((((True) ∧ ((True) ∧ ((True) ∧ (True)))) ∧ (((True) ∧ ((True) ∧ ((True) ∧ (True)))) ∧ (True))) ∧ PureC Try.prog 26 [(.st (.cons (.sl (.int .i64) y_2.2.2.2.2) (.cons (.int .i64 y_2.1) (.cons (.int .i64 y_2.2.1) (.int .i64 y_2.2.2.1))))), (.st (.cons (.sl (.int .i64) y_3.1) (.cons (.int .i64 y_3.2.1) (.cons (.int .i64 y_3.2.2.1) (.int .i64 y_3.2.2.2.1)))))] (.bool y_6) []) ∧ ((True) ∧ (((True) ∧ y_6 = true) ∧ ((True) ∧ ((True) ∧ ((True) ∧ ((True) ∧ ((True) ∧ (True)))))))))))))))) := ⟨trivial, ⟨F24_ok n tree y_4 hx3, ⟨trivial, ⟨F25_ok n tree y_5 hx4, ⟨trivial, ⟨⟨trivial, c5⟩, ⟨trivial, ⟨trivial, ⟨⟨⟨⟨trivial, ⟨trivial, ⟨trivial, trivial⟩⟩⟩, ⟨⟨trivial, ⟨trivial, ⟨trivial, trivial⟩⟩⟩, trivial⟩⟩, F26_ok n y_2.2.2.2.2 y_2.1 y_2.2.1 y_2.2.2.1 y_3.1 y_3.2.1 y_3.2.2.1 y_3.2.2.2.1 y_6 hx7⟩, ⟨trivial, ⟨⟨trivial, c8⟩, ⟨trivial, ⟨trivial, ⟨trivial, ⟨trivial, ⟨trivial, trivial⟩⟩⟩⟩⟩⟩⟩⟩⟩⟩⟩⟩⟩⟩⟩⟩
      refine TS.reg [.none, (.call (.int .i64 y_4) []), .none, (.call (.int .i64 y_5) []), .none, .dec true, .none, .none, (.call (.bool y_6) []), .none, .dec true] ?_ ?_
      · apply prop_of ?_ hq
        kernel_rfl
      refine XS.then ?_
      refine TS.ret ?_
      obtain rfl : (y_2.2.2.2.1 == y_3.2.2.2.2) = r := Option.some.inj h
      exact XS.fin [] ((True) ∧ (True)) (by kernel_rfl) ⟨trivial, trivial⟩
    · have hq : (True) ∧ ((PureC Try.prog 24 [(.sl (.st (.pair (.sl (.int .i64)) (.pair (.int .i64) (.pair (.int .i64) (.int .i64))))) tree)] (.int .i64 y_4) []) ∧ ((True) ∧ ((PureC Try.prog 25 [(.sl (.st (.pair (.sl (.int .i64)) (.pair (.int .i64) (.pair (.int .i64) (.int .i64))))) tree)] (.int .i64 y_5) []) ∧ ((True) ∧ (((True) ∧ (y_4 == y_5) = true) ∧ ((True) ∧ ((True) ∧ (((((True) ∧ ((True) ∧ ((True) ∧ (True)))) ∧ (((True) ∧ ((True) ∧ ((True) ∧ (True)))) ∧ (True))) ∧ PureC Try.prog 26 [(.st (.cons (.sl (.int .i64) y_2.2.2.2.2) (.cons (.int .i64 y_2.1) (.cons (.int .i64 y_2.2.1) (.int .i64 y_2.2.2.1))))), (.st (.cons (.sl (.int .i64) y_3.1) (.cons (.int .i64 y_3.2.1) (.cons (.int .i64 y_3.2.2.1) (.int .i64 y_3.2.2.2.1)))))] (.bool y_6) []) ∧ ((True) ∧ (((True) ∧ y_6 = false) ∧ ((True) ∧ ((True) ∧ (True))))))))))))) := ⟨trivial, ⟨F24_ok n tree y_4 hx3, ⟨trivial, ⟨F25_ok n tree y_5 hx4, ⟨trivial, ⟨⟨trivial, c5⟩, ⟨trivial, ⟨trivial, ⟨⟨⟨⟨trivial, ⟨trivial, ⟨trivial, trivial⟩⟩⟩, ⟨⟨trivial, ⟨trivial, ⟨trivial, trivial⟩⟩⟩, trivial⟩⟩, F26_ok n y_2.2.2.2.2 y_2.1 y_2.2.1 y_2.2.2.1 y_3.1 y_3.2.1 y_3.2.2.1 y_3.2.2.2.1 y_6 hx7⟩, ⟨trivial, ⟨⟨trivial, c9⟩, ⟨trivial, ⟨trivial, trivial⟩⟩⟩⟩⟩⟩⟩⟩⟩⟩⟩⟩⟩
      refine TS.reg [.none, (.call (.int .i64 y_4) []), .none, (.call (.int .i64 y_5) []), .none, .dec true, .none, .none, (.call (.bool y_6) []), .none, .dec false] ?_ ?_
      · apply prop_of ?_ hq
        kernel_rfl
      refine XS.then ?_
      refine TS.ret ?_
      obtain rfl : false = r := Option.some.inj h
      exact XS.fin [] ((True) ∧ (True)) (by kernel_rfl) ⟨trivial, trivial⟩
  · have hq : (True) ∧ ((PureC Try.prog 24 [(.sl (.st (.pair (.sl (.int .i64)) (.pair (.int .i64) (.pair (.int .i64) (.int .i64))))) tree)] (.int .i64 y_4) []) ∧ ((True) ∧ ((PureC Try.prog 25 [(.sl (.st (.pair (.sl (.int .i64)) (.pair (.int .i64) (.pair (.int .i64) (.int .i64))))) tree)] (.int .i64 y_5) []) ∧ ((True) ∧ (((True) ∧ (y_4 == y_5) = false) ∧ ((True) ∧ ((True) ∧ ((True) ∧ ((True) ∧ (True)))))))))) := ⟨trivial, ⟨F24_ok n tree y_4 hx3, ⟨trivial, ⟨F25_ok n tree y_5 hx4, ⟨trivial, ⟨⟨trivial, c6⟩, ⟨trivial, ⟨trivial, ⟨trivial, ⟨trivial, trivial⟩⟩⟩⟩⟩⟩⟩⟩⟩⟩
    refine TS.reg [.none, (.call (.int .i64 y_4) []), .none, (.call (.int .i64 y_5) []), .none, .dec false] ?_ ?_
    · apply prop_of ?_ hq
      kernel_rfl
    refine XS.then ?_
    refine TS.ret ?_
    obtain rfl : false = r := Option.some.inj h
    exact XS.fin [] ((True) ∧ (True)) (by kernel_rfl) ⟨trivial, trivial⟩

/-! plugtree/route.Under -/
def F95 (n : Nat) (a : List Int) (b : List Int) : Option Bool := ((F142 n a b).bind fun y_2 => (some (y_2 == ((b.length : Nat) : Int))))
theorem F95_ok (n : Nat) (a : List Int) (b : List Int) (r : Bool) (h : F95 n a b = some r) : PureC Try.prog 95 [(.sl (.int .i64) a), (.sl (.int .i64) b)] (.bool r) [] := by
  refine PureC.mkS Try.func95 rfl rfl ?_
  intro w0 fz0 hfz
  replace h : ((F142 n a b).bind fun y_2 => (some (y_2 == ((b.length : Nat) : Int)))) = some r := h
  refine TS.seq ?_
  have hq : (True) ∧ (True) := ⟨trivial, trivial⟩
  refine TS.reg [] ?_ ?_
  · apply prop_of ?_ hq
    kernel_rfl
  refine XS.then ?_
  refine TS.seq ?_
  obtain ⟨y_2, hx1, h⟩ := bind_some' h
  have hq : (True) ∧ ((True) ∧ ((PureC Try.prog 142 [(.sl (.int .i64) a), (.sl (.int .i64) b)] (.int .i64 y_2) []) ∧ ((True) ∧ ((True) ∧ ((True) ∧ ((True) ∧ (True))))))) := ⟨trivial, ⟨trivial, ⟨F142_ok n a b y_2 hx1, ⟨trivial, ⟨trivial, ⟨trivial, ⟨trivial, trivial⟩⟩⟩⟩⟩⟩⟩
  refine TS.reg [.none, .none, (.call (.int .i64 y_2) [])] ?_ ?_
  · apply prop_of ?_ hq
    kernel_rfl
  refine XS.then ?_
  refine TS.ret ?_
  obtain rfl : (y_2 == ((b.length : Nat) : Int)) = r := Option.some.inj h
  exact XS.fin [] ((True) ∧ (True)) (by kernel_rfl) ⟨trivial, trivial⟩

/-! plugtree/topo.Unplug -/
def F37_l2 (n : Nat) (tree : List ((List Int) × Int × Int × Int)) (path : List Int) (k37_2 : (Int × (List ((List Int) × Int × Int × Int)) × (List ((List Int) × Int × Int × Int))) → Option (Int × (List ((List Int) × Int × Int × Int)) × (List ((List Int) × Int × Int × Int)))) : (Int × (List ((List Int) × Int × Int × Int)) × (List ((List Int) × Int × Int × Int))) → Option (Int × (List ((List Int) × Int × Int × Int)) × (List ((List Int) × Int × Int × Int)))
  | (x, m0, m1) => (bif (decide (x < ((tree.length : Nat) : Int))) then (bif inb x tree.length then ((F95 n ((tree.getD x.toNat (([] : List Int), ((0 : Int), ((0 : Int), (0 : Int))))).1) path).bind fun y_6 => (bif y_6 then ((F67 n ((tree.getD x.toNat (([] : List Int), ((0 : Int), ((0 : Int), (0 : Int))))).1) ((tree.getD x.toNat (([] : List Int), ((0 : Int), ((0 : Int), (0 : Int))))).2.1) ((tree.getD x.toNat (([] : List Int), ((0 : Int), ((0 : Int), (0 : Int))))).2.2.1) ((tree.getD x.toNat (([] : List Int), ((0 : Int), ((0 : Int), (0 : Int))))).2.2.2)).bind fun y_7 => (bif (decide (m1.length + [(y_7.2.2.2, (y_7.1, (y_7.2.1, y_7.2.2.1)))].length ≤ 2932031007402)) then (k37_2 ((IntKind.wrap .i64 (x + (1 : Int))), m0, (m1 ++ [(y_7.2.2.2, (y_7.1, (y_7.2.1, y_7.2.2.1)))]))) else none)) else ((F67 n ((tree.getD x.toNat (([] : List Int), ((0 : Int), ((0 : Int), (0 : Int))))).1) ((tree.getD x.toNat (([] : List Int), ((0 : Int), ((0 : Int), (0 : Int))))).2.1) ((tree.getD x.toNat (([] : List Int), ((0 : Int), ((0 : Int), (0 : Int))))).2.2.1) ((tree.getD x.toNat (([] : List Int), ((0 : Int), ((0 : Int), (0 : Int))))).2.2.2)).bind fun y_8 => (bif (decide (m0.length + [(y_8.2.2.2, (y_8.1, (y_8.2.1, y_8.2.2.1)))].length ≤ 2932031007402)) then (k37_2 ((IntKind.wrap .i64 (x + (1 : Int))), (m0 ++ [(y_8.2.2.2, (y_8.1, (y_8.2.1, y_8.2.2.1)))]), m1)) else none)))) else none) else (some ((0 : Int), m0, m1)))
def F37 (n : Nat) (tree : List ((List Int) × Int × Int × Int)) (path : List Int) : Option (Int × (List ((List Int) × Int × Int × Int)) × (List ((List Int) × Int × Int × Int))) := ((F24 n tree).bind fun y_4 => (bif (y_4 != (0 : Int)) then (some (y_4, ([] : List ((List Int) × Int × Int × Int)), ([] : List ((List Int) × Int × Int × Int)))) else ((F66 n tree path).bind fun y_5 => (bif (decide (y_5 < (0 : Int))) then (some ((12 : Int), ([] : List ((List Int) × Int × Int × Int)), ([] : List ((List Int) × Int × Int × Int)))) else (loopF (F37_l2 n tree path) n ((0 : Int), ([] : List ((List Int) × Int × Int × Int)), ([] : List ((List Int) × Int × Int × Int))))))))
theorem F37_ok (n : Nat) (tree : List ((List Int) × Int × Int × Int)) (path : List Int) (r : Int × (List ((List Int) × Int × Int × Int)) × (List ((List Int) × Int × Int × Int))) (h : F37 n tree path = some r) : PureC Try.prog 37 [(.sl (.st (.pair (.sl (.int .i64)) (.pair (.int .i64) (.pair (.int .i64) (.int .i64))))) tree), (.sl (.int .i64) path)] (.tup (.cons (.row 0) (.cons (.row 1) (.cons (.int .i64 r.1) .nil)))) [(.row 45 (.st (.pair (.sl (.int .i64)) (.pair (.int .i64) (.pair (.int .i64) (.int .i64))))) r.2.1), (.row 45 (.st (.pair (.sl (.int .i64)) (.pair (.int .i64) (.pair (.int .i64) (.int .i64))))) r.2.2)] := by
  refine PureC.mkS Try.func37 rfl rfl ?_
  intro w0 fz0 hfz
  replace h : ((F24 n tree).bind fun y_4 => (bif (y_4 != (0 : Int)) then (some (y_4, ([] : List ((List Int) × Int × Int × Int)), ([] : List ((List Int) × Int × Int × Int)))) else ((F66 n tree path).bind fun y_5 => (bif (decide (y_5 < (0 : Int))) then (some ((12 : Int), ([] : List ((List Int) × Int × Int × Int)), ([] : List ((List Int) × Int × Int × Int)))) else (loopF (F37_l2 n tree path) n ((0 : Int), ([] : List ((List Int) × Int × Int × Int)), ([] : List ((List Int) × Int × Int × Int)))))))) = some r := h
  refine TS.seq ?_
  have hq : (True) ∧ ((True) ∧ ((True) ∧ (True))) := ⟨trivial, ⟨trivial, ⟨trivial, trivial⟩⟩⟩
  refine TS.reg [] ?_ ?_
  · apply prop_of ?_ hq
    kernel_rfl
  refine XS.then ?_
  refine TS.seq ?_
  refine TS.seq ?_
  obtain ⟨y_4, hx1, h⟩ := bind_some' h
  have hq : (True) ∧ ((PureC Try.prog 24 [(.sl (.st (.pair (.sl (.int .i64)) (.pair (.int .i64) (.pair (.int .i64) (.int .i64))))) tree)] (.int .i64 y_4) []) ∧ ((True) ∧ (True))) := ⟨trivial, ⟨F24_ok n tree y_4 hx1, ⟨trivial, trivial⟩⟩⟩
  refine TS.reg [.none, (.call (.int .i64 y_4) [])] ?_ ?_
  · apply prop_of ?_ hq
    kernel_rfl
  refine XS.then ?_
  refine TS.seq ?_
  have hq : (True) ∧ ((True) ∧ (True)) := ⟨trivial, ⟨trivial, trivial⟩⟩
  refine TS.reg [] ?_ ?_
  · apply prop_of ?_ hq
    kernel_rfl
  refine XS.then ?_
  rcases bif_some h with ⟨c2, h⟩ | ⟨c3, h⟩
  · refine TS.cond (y_4 != (0 : Int)) ?_ (fun hcz => ?_) (fun hcz => by rw [c2] at hcz; cases hcz)
    · kernel_rfl
    refine TS.seq ?_
    have hq : (True) ∧ ((True) ∧ ((True) ∧ ((True) ∧ (True)))) := ⟨trivial, ⟨trivial, ⟨trivial, ⟨trivial, trivial⟩⟩⟩⟩
    refine TS.reg [] ?_ ?_
    · apply prop_of ?_ hq
      kernel_rfl
    refine XS.then ?_
    refine TS.ret ?_
    refine XS.passR ?_
    obtain rfl : (y_4, ([] : List ((List Int) × Int × Int × Int)), ([] : List ((List Int) × Int × Int × Int))) = r := Option.some.inj h
    refine XS.wk (.row false 4 [] 45 (.st (.pair (.sl (.int .i64)) (.pair (.int .i64) (.pair (.int .i64) (.int .i64)))))) ?_
    refine XS.wk (.row false 5 [] 45 (.st (.pair (.sl (.int .i64)) (.pair (.int .i64) (.pair (.int .i64) (.int .i64)))))) ?_
    exact XS.fin [0, 1] ((True) ∧ ((True) ∧ ((True) ∧ (True)))) (by kernel_rfl) ⟨trivial, ⟨trivial, ⟨trivial, trivial⟩⟩⟩
  · refine TS.cond (y_4 != (0 : Int)) ?_ (fun hcz => by rw [c3] at hcz; cases hcz) (fun hcz => ?_)
    · kernel_rfl
    refine TS.skip ?_
    refine XS.then ?_
    refine TS.seq ?_
    refine TS.seq ?_
    obtain ⟨y_5, hx4, h⟩ := bind_some' h
    have hq : (True) ∧ ((True) ∧ ((PureC Try.prog 66 [(.sl (.st (.pair (.sl (.int .i64)) (.pair (.int .i64) (.pair (.int .i64) (.int .i64))))) tree), (.sl (.int .i64) path)] (.int .i64 y_5) []) ∧ ((True) ∧ (True)))) := ⟨trivial, ⟨trivial, ⟨F66_ok n tree path y_5 hx4, ⟨trivial, trivial⟩⟩⟩⟩
    refine TS.reg [.none, .none, (.call (.int .i64 y_5) [])] ?_ ?_
    · apply prop_of ?_ hq
      kernel_rfl
    refine XS.then ?_
    rcases bif_some h with ⟨c5, h⟩ | ⟨c6, h⟩
    · refine TS.cond (decide (y_5 < (0 : Int))) ?_ (fun hcz => ?_) (fun hcz => by rw [c5] at hcz; cases hcz)
      · kernel_rfl
      refine TS.seq ?_
      have hq : (True) ∧ ((True) ∧ ((True) ∧ (True))) := ⟨trivial, ⟨trivial, ⟨trivial, trivial⟩⟩⟩
      refine TS.reg [] ?_ ?_
      · apply prop_of ?_ hq
        kernel_rfl
      refine XS.then ?_
      refine TS.ret ?_
      refine XS.passR ?_
      obtain rfl : ((12 : Int), ([] : List ((List Int) × Int × Int × Int)), ([] : List ((List Int) × Int × Int × Int))) = r := Option.some.inj h
      refine XS.wk (.row false 4 [] 45 (.st (.pair (.sl (.int .i64)) (.pair (.int .i64) (.pair (.int .i64) (.int .i64)))))) ?_
      refine XS.wk (.row false 5 [] 45 (.st (.pair (.sl (.int .i64)) (.pair (.int .i64) (.pair (.int .i64) (.int .i64)))))) ?_
      exact XS.fin [0, 1] ((True) ∧ ((True) ∧ ((True) ∧ (True)))) (by kernel_rfl) ⟨trivial, ⟨trivial, ⟨trivial, trivial⟩⟩⟩
    · refine TS.cond (decide (y_5 < (0 : Int))) ?_ (fun hcz => by rw [c6] at hcz; cases hcz) (fun hcz => ?_)
      · kernel_rfl
      refine TS.skip ?_
      refine XS.then ?_
      refine TS.seq ?_
      have hq : (True) ∧ ((True) ∧ (True)) := ⟨trivial, ⟨trivial, trivial⟩⟩
      refine TS.reg [] ?_ ?_
      · apply prop_of ?_ hq
        kernel_rfl
      refine XS.then ?_
      refine TS.seq ?_
      refine TS.seq ?_
      have hq : (True) ∧ ((True) ∧ ((True) ∧ (True))) := ⟨trivial, ⟨trivial, ⟨trivial, trivial⟩⟩⟩
      refine TS.reg [] ?_ ?_
      · apply prop_of ?_ hq
        kernel_rfl
      refine XS.then ?_
      refine TS.block ?_
      refine TS.wk (.row false 8 [] 45 (.st (.pair (.sl (.int .i64)) (.pair (.int .i64) (.pair (.int .i64) (.int .i64)))))) ?_
      refine TS.wk (.row false 9 [] 45 (.st (.pair (.sl (.int .i64)) (.pair (.int .i64) (.pair (.int .i64) (.int .i64)))))) ?_
      refine TS.reLoop [0, 1] (mkMask 44 [1, 8, 9, 21, 22, 23]) (D := Int × (List ((List Int) × Int × Int × Int)) × (List ((List Int) × Int × Int × Int))) (fun d => match d with | (x, m0, m1) => (mkTs 44 [(1, (.sl (.int .i64) path)), (8, (.row 0)), (9, (.row 1)), (21, (.sl (.st (.pair (.sl (.int .i64)) (.pair (.int .i64) (.pair (.int .i64) (.int .i64))))) tree)), (22, (.int .i64 ((tree.length : Nat) : Int))), (23, (.int .i64 x))], [(.row 45 (.st (.pair (.sl (.int .i64)) (.pair (.int .i64) (.pair (.int .i64) (.int .i64))))) m0), (.row 45 (.st (.pair (.sl (.int .i64)) (.pair (.int .i64) (.pair (.int .i64) (.int .i64))))) m1)])) (fun n' d => loopF (F37_l2 n tree path) n' d = some r) n ((0 : Int), ([] : List ((List Int) × Int × Int × Int)), ([] : List ((List Int) × Int × Int × Int))) h ?_ (fun d => loopF_zero _ d r) ?_
      · kernel_rfl
      · rintro n2 ⟨x, m0, m1⟩ h
        replace h : (bif (decide (x < ((tree.length : Nat) : Int))) then (bif inb x tree.length then ((F95 n ((tree.getD x.toNat (([] : List Int), ((0 : Int), ((0 : Int), (0 : Int))))).1) path).bind fun y_6 => (bif y_6 then ((F67 n ((tree.getD x.toNat (([] : List Int), ((0 : Int), ((0 : Int), (0 : Int))))).1) ((tree.getD x.toNat (([] : List Int), ((0 : Int), ((0 : Int), (0 : Int))))).2.1) ((tree.getD x.toNat (([] : List Int), ((0 : Int), ((0 : Int), (0 : Int))))).2.2.1) ((tree.getD x.toNat (([] : List Int), ((0 : Int), ((0 : Int), (0 : Int))))).2.2.2)).bind fun y_7 => (bif (decide (m1.length + [(y_7.2.2.2, (y_7.1, (y_7.2.1, y_7.2.2.1)))].length ≤ 2932031007402)) then ((loopF (F37_l2 n tree path) n2) ((IntKind.wrap .i64 (x + (1 : Int))), m0, (m1 ++ [(y_7.2.2.2, (y_7.1, (y_7.2.1, y_7.2.2.1)))]))) else none)) else ((F67 n ((tree.getD x.toNat (([] : List Int), ((0 : Int), ((0 : Int), (0 : Int))))).1) ((tree.getD x.toNat (([] : List Int), ((0 : Int), ((0 : Int), (0 : Int))))).2.1) ((tree.getD x.toNat (([] : List Int), ((0 : Int), ((0 : Int), (0 : Int))))).2.2.1) ((tree.getD x.toNat (([] : List Int), ((0 : Int), ((0 : Int), (0 : Int))))).2.2.2)).bind fun y_8 => (bif (decide (m0.length + [(y_8.2.2.2, (y_8.1, (y_8.2.1, y_8.2.2.1)))].length ≤ 2932031007402)) then ((loopF (F37_l2 n tree path) n2) ((IntKind.wrap .i64 (x + (1 : Int))), (m0 ++ [(y_8.2.2.2, (y_8.1, (y_8.2.1, y_8.2.2.1)))]), m1)) else none)))) else none) else (some ((0 : Int), m0, m1))) = some r := h
        refine TS.seq ?_
        have hq : (True) ∧ (True) := ⟨trivial, trivial⟩
        refine TS.reg [] ?_ ?_
        · apply prop_of ?_ hq
          kernel_rfl
        refine XS.then ?_
        refine TS.seq ?_
        rcases bif_some h with ⟨c7, h⟩ | ⟨c8, h⟩
        · refine TS.cond (decide (x < ((tree.length : Nat) : Int))) ?_ (fun hcz => ?_) (fun hcz => by rw [c7] at hcz; cases hcz)
          · kernel_rfl
          refine TS.skip ?_
          refine XS.then ?_
          refine TS.seq ?_
          refine TS.block ?_
          refine TS.seq ?_
          obtain ⟨t9, h⟩ := test_some h
          have hq : (inR x tree.length) ∧ ((True) ∧ ((True) ∧ ((True) ∧ (True)))) := ⟨inb_ok t9, ⟨trivial, ⟨trivial, ⟨trivial, trivial⟩⟩⟩⟩
          refine TS.reg [] ?_ ?_
          · apply prop_of ?_ hq
            kernel_rfl
          refine XS.then ?_
          refine TS.seq ?_
          obtain ⟨y_6, hx10, h⟩ := bind_some' h
          have hq : (True) ∧ ((True) ∧ ((True) ∧ ((PureC Try.prog 95 [(.sl (.int .i64) (tree.getD x.toNat (([] : List Int), ((0 : Int), ((0 : Int), (0 : Int))))).1), (.sl (.int .i64) path)] (.bool y_6) []) ∧ (True)))) := ⟨trivial, ⟨trivial, ⟨trivial, ⟨F95_ok n ((tree.getD x.toNat (([] : List Int), ((0 : Int), ((0 : Int), (0 : Int))))).1) path y_6 hx10, trivial⟩⟩⟩⟩
          refine TS.reg [.none, .none, .none, (.call (.bool y_6) [])] ?_ ?_
          · apply prop_of ?_ hq
            kernel_rfl
          refine XS.then ?_
          rcases bif_some h with ⟨c11, h⟩ | ⟨c12, h⟩
          · refine TS.cond y_6 ?_ (fun hcz => ?_) (fun hcz => by rw [c11] at hcz; cases hcz)
            · kernel_rfl
            refine TS.opsOf ?_
            obtain ⟨y_7, hx13, h⟩ := bind_some' h
            have hq : (True) ∧ ((True) ∧ ((PureC Try.prog 67 [(.st (.cons (.sl (.int .i64) (tree.getD x.toNat (([] : List Int), ((0 : Int), ((0 : Int), (0 : Int))))).1) (.cons (.int .i64 (tree.getD x.toNat (([] : List Int), ((0 : Int), ((0 : Int), (0 : Int))))).2.1) (.cons (.int .i64 (tree.getD x.toNat (([] : List Int), ((0 : Int), ((0 : Int), (0 : Int))))).2.2.1) (.int .i64 (tree.getD x.toNat (([] : List Int), ((0 : Int), ((0 : Int), (0 : Int))))).2.2.2)))))] (.st (.cons (.row 0) (.cons (.int .i64 y_7.1) (.cons (.int .i64 y_7.2.1) (.int .i64 y_7.2.2.1))))) [(.row 3 (.int .i64) y_7.2.2.2)]) ∧ (True))) := ⟨trivial, ⟨trivial, ⟨F67_ok n ((tree.getD x.toNat (([] : List Int), ((0 : Int), ((0 : Int), (0 : Int))))).1) ((tree.getD x.toNat (([] : List Int), ((0 : Int), ((0 : Int), (0 : Int))))).2.1) ((tree.getD x.toNat (([] : List Int), ((0 : Int), ((0 : Int), (0 : Int))))).2.2.1) ((tree.getD x.toNat (([] : List Int), ((0 : Int), ((0 : Int), (0 : Int))))).2.2.2) y_7 hx13, trivial⟩⟩⟩
            refine TOS.run 3 [.none, .none, (.call (.st (.cons (.row 0) (.cons (.int .i64 y_7.1) (.cons (.int .i64 y_7.2.1) (.int .i64 y_7.2.2.1))))) [(.row 3 (.int .i64) y_7.2.2.2)])] (by kernel_rfl) ?_ ?_
            · apply prop_of ?_ hq
              kernel_rfl
            refine TOS.wk (.frz 3) ?_
            obtain ⟨t14, h⟩ := test_some h
            have hq : ((0 < 1 ∧ True) ∧ (True)) ∧ ((m1.length + [(y_7.2.2.2, (y_7.1, (y_7.2.1, y_7.2.2.1)))].length ≤ 2932031007402) ∧ ((True) ∧ (True))) := ⟨⟨⟨by decide, trivial⟩, trivial⟩, ⟨of_decide_eq_true t14, ⟨trivial, trivial⟩⟩⟩
            refine TOS.run 3 [] (by kernel_rfl) ?_ ?_
            · apply prop_of ?_ hq
              kernel_rfl
            refine TOS.nil (by kernel_rfl) ?_
            refine XS.blockEnd ?_
            refine XS.then ?_
            have hq : (True) ∧ ((True) ∧ (True)) := ⟨trivial, ⟨trivial, trivial⟩⟩
            refine TS.reg [] ?_ ?_
            · apply prop_of ?_ hq
              kernel_rfl
            refine XS.reAny [0, 5] (mkMask 44 [1, 8, 9, 21, 22, 23]) ((IntKind.wrap .i64 (x + (1 : Int))), m0, (m1 ++ [(y_7.2.2.2, (y_7.1, (y_7.2.1, y_7.2.2.1)))])) h ?_
            kernel_rfl
          · refine TS.cond y_6 ?_ (fun hcz => by rw [c12] at hcz; cases hcz) (fun hcz => ?_)
            · kernel_rfl
            refine TS.opsOf ?_
            obtain ⟨y_8, hx15, h⟩ := bind_some' h
            have hq : (True) ∧ ((True) ∧ ((PureC Try.prog 67 [(.st (.cons (.sl (.int .i64) (tree.getD x.toNat (([] : List Int), ((0 : Int), ((0 : Int), (0 : Int))))).1) (.cons (.int .i64 (tree.getD x.toNat (([] : List Int), ((0 : Int), ((0 : Int), (0 : Int))))).2.1) (.cons (.int .i64 (tree.getD x.toNat (([] : List Int), ((0 : Int), ((0 : Int), (0 : Int))))).2.2.1) (.int .i64 (tree.getD x.toNat (([] : List Int), ((0 : Int), ((0 : Int), (0 : Int))))).2.2.2)))))] (.st (.cons (.row 0) (.cons (.int .i64 y_8.1) (.cons (.int .i64 y_8.2.1) (.int .i64 y_8.2.2.1))))) [(.row 3 (.int .i64) y_8.2.2.2)]) ∧ (True))) := ⟨trivial, ⟨trivial, ⟨F67_ok n ((tree.getD x.toNat (([] : List Int), ((0 : Int), ((0 : Int), (0 : Int))))).1) ((tree.getD x.toNat (([] : List Int), ((0 : Int), ((0 : Int), (0 : Int))))).2.1) ((tree.getD x.toNat (([] : List Int), ((0 : Int), ((0 : Int), (0 : Int))))).2.2.1) ((tree.getD x.toNat (([] : List Int), ((0 : Int), ((0 : Int), (0 : Int))))).2.2.2) y_8 hx15, trivial⟩⟩⟩
            refine TOS.run 3 [.none, .none, (.call (.st (.cons (.row 0) (.cons (.int .i64 y_8.1) (.cons (.int .i64 y_8.2.1) (.int .i64 y_8.2.2.1))))) [(.row 3 (.int .i64) y_8.2.2.2)])] (by kernel_rfl) ?_ ?_
            · apply prop_of ?_ hq
              kernel_rfl
            refine TOS.wk (.frz 3) ?_
            obtain ⟨t16, h⟩ := test_some h
            have hq : ((0 < 1 ∧ True) ∧ (True)) ∧ ((m0.length + [(y_8.2.2.2, (y_8.1, (y_8.2.1, y_8.2.2.1)))].length ≤ 2932031007402) ∧ ((True) ∧ (True))) := ⟨⟨⟨by decide, trivial⟩, trivial⟩, ⟨of_decide_eq_true t16, ⟨trivial, trivial⟩⟩⟩
            refine TOS.run 3 [] (by kernel_rfl) ?_ ?_
            · apply prop_of ?_ hq
              kernel_rfl
            refine TOS.nil (by kernel_rfl) ?_
            refine XS.blockEnd ?_
            refine XS.then ?_
            have hq : (True) ∧ ((True) ∧ (True)) := ⟨trivial, ⟨trivial, trivial⟩⟩
            refine TS.reg [] ?_ ?_
            · apply prop_of ?_ hq
              kernel_rfl
            refine XS.reAny [5, 1] (mkMask 44 [1, 8, 9, 21, 22, 23]) ((IntKind.wrap .i64 (x + (1 : Int))), (m0 ++ [(y_8.2.2.2, (y_8.1, (y_8.2.1, y_8.2.2.1)))]), m1) h ?_
            kernel_rfl
        · refine TS.cond (decide (x < ((tree.length : Nat) : Int))) ?_ (fun hcz => by rw [c8] at hcz; cases hcz) (fun hcz => ?_)
          · kernel_rfl
          refine TS.exit ?_
          refine XS.passE ?_
          refine XS.passE ?_
          refine XS.out ?_
          refine XS.then ?_
          refine TS.seq ?_
          have hq : (True) ∧ ((True) ∧ ((True) ∧ ((True) ∧ ((True) ∧ (True))))) := ⟨trivial, ⟨trivial, ⟨trivial, ⟨trivial, ⟨trivial, trivial⟩⟩⟩⟩⟩
          refine TS.reg [] ?_ ?_
          · apply prop_of ?_ hq
            kernel_rfl
          refine XS.then ?_
          refine TS.ret ?_
          obtain rfl : ((0 : Int), m0, m1) = r := Option.some.inj h
          exact XS.fin [0, 1] ((True) ∧ ((True) ∧ ((True) ∧ (True)))) (by kernel_rfl) ⟨trivial, ⟨trivial, ⟨trivial, trivial⟩⟩⟩

/-! plugtree/plugref.Unplugged$1 -/
def F96 (n : Nat) (n_Path : List Int) (n_Kind : Int) (n_Ports : Int) (n_Serial : Int) (x : List Int) : Option Bool := (bif (decide (((n_Path.length : Nat) : Int) ≥ ((x.length : Nat) : Int))) then (bif subB n_Path.length none (some ((x.length : Nat) : Int)) then ((F70 n (n_Path.take ((x.length : Nat) : Int).toNat) x).bind fun y_2 => (some y_2)) else none) else (some false))
theorem F96_ok (n : Nat) (n_Path : List Int) (n_Kind : Int) (n_Ports : Int) (n_Serial : Int) (x : List Int) (r : Bool) (h : F96 n n_Path n_Kind n_Ports n_Serial x = some r) : PureC Try.prog 96 [(.st (.cons (.sl (.int .i64) n_Path) (.cons (.int .i64 n_Kind) (.cons (.int .i64 n_Ports) (.int .i64 n_Serial))))), (.pv (.sl (.int .i64) x))] (.bool r) [] := by
  refine PureC.mkS Try.func96 rfl rfl ?_
  intro w0 fz0 hfz
  replace h : (bif (decide (((n_Path.length : Nat) : Int) ≥ ((x.length : Nat) : Int))) then (bif subB n_Path.length none (some ((x.length : Nat) : Int)) then ((F70 n (n_Path.take ((x.length : Nat) : Int).toNat) x).bind fun y_2 => (some y_2)) else none) else (some false)) = some r := h
  refine TS.seq ?_
  have hq : (True) ∧ ((True) ∧ (True)) := ⟨trivial, ⟨trivial, trivial⟩⟩
  refine TS.reg [] ?_ ?_
  · apply prop_of ?_ hq
    kernel_rfl
  refine XS.then ?_
  refine TS.seq ?_
  rcases bif_some h with ⟨c1, h⟩ | ⟨c2, h⟩
  · obtain ⟨t3, h⟩ := test_some h
    obtain ⟨y_2, hx4, h⟩ := bind_some' h
    have hq : ((True) ∧ ((True) ∧ ((True) ∧ ((True) ∧ ((True) ∧ ((True) ∧ (((True) ∧ (decide (((n_Path.length : Nat) : Int) ≥ ((x.length : Nat) : Int))) = true) ∧ ((True) ∧ ((True) ∧ ((True) ∧ ((True) ∧ ((subC n_Path.length none (some ((x.length : Nat) : Int))) ∧ ((True) ∧ ((PureC Try.prog 70 [(.sl (.int .i64) (n_Path.take ((x.length : Nat) : Int).toNat)), (.sl (.int .i64) x)] (.bool y_2) []) ∧ ((True) ∧ (True)))))))))))))))) ∧ ((True) ∧ (True)) := ⟨⟨trivial, ⟨trivial, ⟨trivial, ⟨trivial, ⟨trivial, ⟨trivial, ⟨⟨trivial, c1⟩, ⟨trivial, ⟨trivial, ⟨trivial, ⟨trivial, ⟨subB_ok t3, ⟨trivial, ⟨F70_ok n (n_Path.take ((x.length : Nat) : Int).toNat) x y_2 hx4, ⟨trivial, trivial⟩⟩⟩⟩⟩⟩⟩⟩⟩⟩⟩⟩⟩⟩⟩, ⟨trivial, trivial⟩⟩
    refine TS.draw 15 [] [.none, .none, .none, .none, .none, .none, .dec true, .none, .none, .none, .none, .none, .none, (.call (.bool y_2) [])] (by kernel_rfl) ?_ ?_
    · apply prop_of ?_ hq
      kernel_rfl
    refine XS.then ?_
    refine TS.ret ?_
    obtain rfl : y_2 = r := Option.some.inj h
    exact XS.fin [] ((True) ∧ (True)) (by kernel_rfl) ⟨trivial, trivial⟩
  · have hq : ((True) ∧ ((True) ∧ ((True) ∧ ((True) ∧ ((True) ∧ ((True) ∧ (((True) ∧ (decide (((n_Path.length : Nat) : Int) ≥ ((x.length : Nat) : Int))) = false) ∧ ((True) ∧ (True))))))))) ∧ ((True) ∧ (True)) := ⟨⟨trivial, ⟨trivial, ⟨trivial, ⟨trivial, ⟨trivial, ⟨trivial, ⟨⟨trivial, c2⟩, ⟨trivial, trivial⟩⟩⟩⟩⟩⟩⟩⟩, ⟨trivial, trivial⟩⟩
    refine TS.draw 15 [] [.none, .none, .none, .none, .none, .none, .dec false] (by kernel_rfl) ?_ ?_
    · apply prop_of ?_ hq
      kernel_rfl
    refine XS.then ?_
    refine TS.ret ?_
    obtain rfl : false = r := Option.some.inj h
    exact XS.fin [] ((True) ∧ (True)) (by kernel_rfl) ⟨trivial, trivial⟩

/-! slices.Clone[[]plugtree/api.Node,plugtree/api.Node] -/
def F98 (n : Nat) (s : List ((List Int) × Int × Int × Int)) : Option (List ((List Int) × Int × Int × Int)) := (bif (decide (([] : List ((List Int) × Int × Int × Int)).length + s.length ≤ 2932031007402)) then (some (([] : List ((List Int) × Int × Int × Int)) ++ s)) else none)
theorem F98_ok (n : Nat) (s : List ((List Int) × Int × Int × Int)) (r : List ((List Int) × Int × Int × Int)) (h : F98 n s = some r) : PureC Try.prog 98 [(.sl (.st (.pair (.sl (.int .i64)) (.pair (.int .i64) (.pair (.int .i64) (.int .i64))))) s)] (.row 0) [(.row 45 (.st (.pair (.sl (.int .i64)) (.pair (.int .i64) (.pair (.int .i64) (.int .i64))))) r)] := by
  refine PureC.mkS Try.func98 rfl rfl ?_
  intro w0 fz0 hfz
  replace h : (bif (decide (([] : List ((List Int) × Int × Int × Int)).length + s.length ≤ 2932031007402)) then (some (([] : List ((List Int) × Int × Int × Int)) ++ s)) else none) = some r := h
  refine TS.seq ?_
  have hq : (True) ∧ (True) := ⟨trivial, trivial⟩
  refine TS.reg [] ?_ ?_
  · apply prop_of ?_ hq
    kernel_rfl
  refine XS.then ?_
  refine TS.seq ?_
  refine TS.seq ?_
  have hq : (True) ∧ (True) := ⟨trivial, trivial⟩
  refine TS.nilReg 1 [] (.st (.pair (.sl (.int .i64)) (.pair (.int .i64) (.pair (.int .i64) (.int .i64))))) s ?_ (by kernel_rfl) ?_
  · apply prop_of ?_ hq
    kernel_rfl
  · intro b2 hb4
    cases b2
    · clear hb4
      refine XS.then ?_
      refine TS.no ?_ ?_
      · kernel_rfl
      refine TS.skip ?_
      refine XS.then ?_
      refine TS.seq ?_
      obtain ⟨t1, h⟩ := test_some h
      have hq : (True) ∧ ((True) ∧ ((([] : List ((List Int) × Int × Int × Int)).length + s.length ≤ 2932031007402) ∧ ((True) ∧ (True)))) := ⟨trivial, ⟨trivial, ⟨of_decide_eq_true t1, ⟨trivial, trivial⟩⟩⟩⟩
      refine TS.reg [] ?_ ?_
      · apply prop_of ?_ hq
        kernel_rfl
      refine XS.then ?_
      refine TS.ret ?_
      obtain rfl : (([] : List ((List Int) × Int × Int × Int)) ++ s) = r := Option.some.inj h
      exact XS.fin [1] ((True) ∧ (True)) (by kernel_rfl) ⟨trivial, trivial⟩
    · have e3 := hb4 rfl
      replace h : (some ([] : List ((List Int) × Int × Int × Int))) = some r := by first | exact h | (rw [e3] at h ⊢; exact h) | simpa [e3] using h
      refine XS.then ?_
      refine TS.yes ?_ ?_
      · kernel_rfl
      refine TS.seq ?_
      have hq : (True) ∧ (True) := ⟨trivial, trivial⟩
      refine TS.reg [] ?_ ?_
      · apply prop_of ?_ hq
        kernel_rfl
      refine XS.then ?_
      refine TS.ret ?_
      refine XS.passR ?_
      obtain rfl : ([] : List ((List Int) × Int × Int × Int)) = r := Option.some.inj h
      refine XS.wk (.row false 2 [] 45 (.st (.pair (.sl (.int .i64)) (.pair (.int .i64) (.pair (.int .i64) (.int .i64)))))) ?_
      exact XS.fin [0] ((True) ∧ (True)) (by kernel_rfl) ⟨trivial, trivial⟩
end Go.Proofs.Ytmcjcioifgaihaa
