/- Functions of the program, as functions of values. -/
import Derived.Test.YtgcdohclbkmmdaaAm24
import Derived.Test.YtgcdohclbkmmdaaChecked
namespace Go.Proofs.Ytgcdohclbkmmdaa
open Go Go.RowKit
set_option linter.unusedVariables false
set_option maxRecDepth 100000

/-! plugtree/budget.period -/
def F115 (n : Nat) (vn : Int) : Option Bool := (bif (decide (vn ≥ (1 : Int))) then (bif (decide (vn ≤ (32 : Int))) then (some ((bitsI .and .i64 vn (IntKind.wrap .i64 (vn - (1 : Int)))) == (0 : Int))) else (some false)) else (some false))
theorem F115_ok (n : Nat) (vn : Int) (r : Bool) (h : F115 n vn = some r) : PureC Try.prog 115 [(.int .i64 vn)] (.bool r) [] := by
  refine PureC.mkS Try.func115 rfl rfl ?_
  intro w0 fz0 hfz
  replace h : (bif (decide (vn ≥ (1 : Int))) then (bif (decide (vn ≤ (32 : Int))) then (some ((bitsI .and .i64 vn (IntKind.wrap .i64 (vn - (1 : Int)))) == (0 : Int))) else (some false)) else (some false)) = some r := h
  refine TS.seq ?_
  have hq : (True) ∧ (True) := ⟨trivial, trivial⟩
  refine TS.reg [] ?_ ?_
  · apply prop_of ?_ hq
    kernel_rfl
  refine XS.then ?_
  refine TS.seq ?_
  rcases bif_some h with ⟨c1, h⟩ | ⟨c2, h⟩
  · rcases bif_some h with ⟨c3, h⟩ | ⟨c4, h⟩
    · have hq : (True) ∧ ((True) ∧ (((True) ∧ (decide (vn ≥ (1 : Int))) = true) ∧ ((True) ∧ ((True) ∧ ((True) ∧ (((True) ∧ (decide (vn ≤ (32 : Int))) = true) ∧ ((True) ∧ ((True) ∧ ((True) ∧ ((True) ∧ ((True) ∧ ((True) ∧ ((True) ∧ (True)))))))))))))) := ⟨trivial, ⟨trivial, ⟨⟨trivial, c1⟩, ⟨trivial, ⟨trivial, ⟨trivial, ⟨⟨trivial, c3⟩, ⟨trivial, ⟨trivial, ⟨trivial, ⟨trivial, ⟨trivial, ⟨trivial, ⟨trivial, trivial⟩⟩⟩⟩⟩⟩⟩⟩⟩⟩⟩⟩⟩⟩
      refine TS.reg [.none, .none, .dec true, .none, .none, .none, .dec true] ?_ ?_
      · apply prop_of ?_ hq
        kernel_rfl
      refine XS.then ?_
      refine TS.ret ?_
      obtain rfl : ((bitsI .and .i64 vn (IntKind.wrap .i64 (vn - (1 : Int)))) == (0 : Int)) = r := Option.some.inj h
      exact XS.fin [] ((True) ∧ (True)) (by kernel_rfl) ⟨trivial, trivial⟩
    · have hq : (True) ∧ ((True) ∧ (((True) ∧ (decide (vn ≥ (1 : Int))) = true) ∧ ((True) ∧ ((True) ∧ ((True) ∧ (((True) ∧ (decide (vn ≤ (32 : Int))) = false) ∧ ((True) ∧ ((True) ∧ (True))))))))) := ⟨trivial, ⟨trivial, ⟨⟨trivial, c1⟩, ⟨trivial, ⟨trivial, ⟨trivial, ⟨⟨trivial, c4⟩, ⟨trivial, ⟨trivial, trivial⟩⟩⟩⟩⟩⟩⟩⟩⟩
      refine TS.reg [.none, .none, .dec true, .none, .none, .none, .dec false] ?_ ?_
      · apply prop_of ?_ hq
        kernel_rfl
      refine XS.then ?_
      refine TS.ret ?_
      obtain rfl : false = r := Option.some.inj h
      exact XS.fin [] ((True) ∧ (True)) (by kernel_rfl) ⟨trivial, trivial⟩
  · have hq : (True) ∧ ((True) ∧ (((True) ∧ (decide (vn ≥ (1 : Int))) = false) ∧ ((True) ∧ ((True) ∧ ((True) ∧ ((True) ∧ (True))))))) := ⟨trivial, ⟨trivial, ⟨⟨trivial, c2⟩, ⟨trivial, ⟨trivial, ⟨trivial, ⟨trivial, trivial⟩⟩⟩⟩⟩⟩⟩
    refine TS.reg [.none, .none, .dec false] ?_ ?_
    · apply prop_of ?_ hq
      kernel_rfl
    refine XS.then ?_
    refine TS.ret ?_
    obtain rfl : false = r := Option.some.inj h
    exact XS.fin [] ((True) ∧ (True)) (by kernel_rfl) ⟨trivial, trivial⟩

/-! plugtree/budget.arguments -/
def F88_l2 (n : Nat) (periods : List Int) (k88_2 : Int → Option Int) : Int → Option Int
  | x => (bif (decide (x < ((periods.length : Nat) : Int))) then (bif inb x periods.length then ((F115 n (periods.getD x.toNat (0 : Int))).bind fun y_2 => (bif (!y_2) then (some (1 : Int)) else (k88_2 (IntKind.wrap .i64 (x + (1 : Int)))))) else none) else (some (0 : Int)))
def F88 (n : Nat) (periods : List Int) (lanes : Int) : Option Int := (bif (decide (lanes < (1 : Int))) then (some (1 : Int)) else (bif (decide (lanes > (8 : Int))) then (some (1 : Int)) else (bif (decide (((periods.length : Nat) : Int) > (64 : Int))) then (some (2 : Int)) else (loopF (F88_l2 n periods) n (0 : Int)))))
theorem F88_ok (n : Nat) (periods : List Int) (lanes : Int) (r : Int) (h : F88 n periods lanes = some r) : PureC Try.prog 88 [(.sl (.int .i64) periods), (.int .i64 lanes)] (.int .i64 r) [] := by
  refine PureC.mkS Try.func88 rfl rfl ?_
  intro w0 fz0 hfz
  replace h : (bif (decide (lanes < (1 : Int))) then (some (1 : Int)) else (bif (decide (lanes > (8 : Int))) then (some (1 : Int)) else (bif (decide (((periods.length : Nat) : Int) > (64 : Int))) then (some (2 : Int)) else (loopF (F88_l2 n periods) n (0 : Int))))) = some r := h
  refine TS.seq ?_
  have hq : (True) ∧ (True) := ⟨trivial, trivial⟩
  refine TS.reg [] ?_ ?_
  · apply prop_of ?_ hq
    kernel_rfl
  refine XS.then ?_
  refine TS.seq ?_
  refine TS.block ?_
  refine TS.seq ?_
  rcases bif_some h with ⟨c1, h⟩ | ⟨c2, h⟩
  · have hq : (True) ∧ ((True) ∧ (((True) ∧ (decide (lanes < (1 : Int))) = true) ∧ ((True) ∧ ((True) ∧ (True))))) := ⟨trivial, ⟨trivial, ⟨⟨trivial, c1⟩, ⟨trivial, ⟨trivial, trivial⟩⟩⟩⟩⟩
    refine TS.reg [.none, .none, .dec true] ?_ ?_
    · apply prop_of ?_ hq
      kernel_rfl
    refine XS.then ?_
    refine TS.yes ?_ ?_
    · kernel_rfl
    refine TS.seq ?_
    have hq : (True) ∧ (True) := ⟨trivial, trivial⟩
    refine TS.reg [] ?_ ?_
    · apply prop_of ?_ hq
      kernel_rfl
    refine XS.then ?_
    refine TS.ret ?_
    refine XS.blockRet ?_
    refine XS.passR ?_
    obtain rfl : (1 : Int) = r := Option.some.inj h
    exact XS.fin [] ((True) ∧ (True)) (by kernel_rfl) ⟨trivial, trivial⟩
  · have hq : (True) ∧ ((True) ∧ (((True) ∧ (decide (lanes < (1 : Int))) = false) ∧ ((True) ∧ ((True) ∧ ((True) ∧ ((True) ∧ (True))))))) := ⟨trivial, ⟨trivial, ⟨⟨trivial, c2⟩, ⟨trivial, ⟨trivial, ⟨trivial, ⟨trivial, trivial⟩⟩⟩⟩⟩⟩⟩
    refine TS.reg [.none, .none, .dec false] ?_ ?_
    · apply prop_of ?_ hq
      kernel_rfl
    refine XS.then ?_
    rcases bif_some h with ⟨c3, h⟩ | ⟨c4, h⟩
    · refine TS.cond (decide (lanes > (8 : Int))) ?_ (fun e => ?_) (fun e => by rw [c3] at e; cases e)
      · kernel_rfl
      refine TS.seq ?_
      have hq : (True) ∧ (True) := ⟨trivial, trivial⟩
      refine TS.reg [] ?_ ?_
      · apply prop_of ?_ hq
        kernel_rfl
      refine XS.then ?_
      refine TS.ret ?_
      refine XS.blockRet ?_
      refine XS.passR ?_
      obtain rfl : (1 : Int) = r := Option.some.inj h
      exact XS.fin [] ((True) ∧ (True)) (by kernel_rfl) ⟨trivial, trivial⟩
    · refine TS.cond (decide (lanes > (8 : Int))) ?_ (fun e => by rw [c4] at e; cases e) (fun e => ?_)
      · kernel_rfl
      refine TS.seq ?_
      have hq : (True) ∧ ((True) ∧ ((True) ∧ ((True) ∧ (True)))) := ⟨trivial, ⟨trivial, ⟨trivial, ⟨trivial, trivial⟩⟩⟩⟩
      refine TS.reg [] ?_ ?_
      · apply prop_of ?_ hq
        kernel_rfl
      refine XS.then ?_
      rcases bif_some h with ⟨c5, h⟩ | ⟨c6, h⟩
      · refine TS.cond (decide (((periods.length : Nat) : Int) > (64 : Int))) ?_ (fun e => ?_) (fun e => by rw [c5] at e; cases e)
        · kernel_rfl
        refine TS.seq ?_
        have hq : (True) ∧ (True) := ⟨trivial, trivial⟩
        refine TS.reg [] ?_ ?_
        · apply prop_of ?_ hq
          kernel_rfl
        refine XS.then ?_
        refine TS.ret ?_
        refine XS.blockRet ?_
        refine XS.passR ?_
        obtain rfl : (2 : Int) = r := Option.some.inj h
        exact XS.fin [] ((True) ∧ (True)) (by kernel_rfl) ⟨trivial, trivial⟩
      · refine TS.cond (decide (((periods.length : Nat) : Int) > (64 : Int))) ?_ (fun e => by rw [c6] at e; cases e) (fun e => ?_)
        · kernel_rfl
        refine TS.skip ?_
        refine XS.blockEnd ?_
        refine XS.then ?_
        refine TS.seq ?_
        refine TS.seq ?_
        have hq : (True) ∧ ((True) ∧ ((True) ∧ (True))) := ⟨trivial, ⟨trivial, ⟨trivial, trivial⟩⟩⟩
        refine TS.reg [] ?_ ?_
        · apply prop_of ?_ hq
          kernel_rfl
        refine XS.then ?_
        refine TS.block ?_
        refine TS.reLoop [] (mkMask 28 [18, 19, 20]) (D := Int) (fun d => match d with | x => (mkTs 28 [(18, (.sl (.int .i64) periods)), (19, (.int .i64 ((periods.length : Nat) : Int))), (20, (.int .i64 x))], [])) (fun n' d => loopF (F88_l2 n periods) n' d = some r) n (0 : Int) h ?_ (fun d => loopF_zero _ d r) ?_
        · kernel_rfl
        · rintro n2 x h
          replace h : (bif (decide (x < ((periods.length : Nat) : Int))) then (bif inb x periods.length then ((F115 n (periods.getD x.toNat (0 : Int))).bind fun y_2 => (bif (!y_2) then (some (1 : Int)) else ((loopF (F88_l2 n periods) n2) (IntKind.wrap .i64 (x + (1 : Int)))))) else none) else (some (0 : Int))) = some r := h
          refine TS.seq ?_
          have hq : (True) ∧ (True) := ⟨trivial, trivial⟩
          refine TS.reg [] ?_ ?_
          · apply prop_of ?_ hq
            kernel_rfl
          refine XS.then ?_
          refine TS.seq ?_
          rcases bif_some h with ⟨c7, h⟩ | ⟨c8, h⟩
          · refine TS.cond (decide (x < ((periods.length : Nat) : Int))) ?_ (fun e => ?_) (fun e => by rw [c7] at e; cases e)
            · kernel_rfl
            refine TS.skip ?_
            refine XS.then ?_
            refine TS.seq ?_
            refine TS.block ?_
            refine TS.seq ?_
            obtain ⟨t9, h⟩ := test_some h
            have hq : (inR x periods.length) ∧ ((True) ∧ ((True) ∧ (True))) := ⟨inb_ok t9, ⟨trivial, ⟨trivial, trivial⟩⟩⟩
            refine TS.reg [] ?_ ?_
            · apply prop_of ?_ hq
              kernel_rfl
            refine XS.then ?_
            refine TS.seq ?_
            obtain ⟨y_2, hx10, h⟩ := bind_some' h
            have hq : (True) ∧ ((PureC Try.prog 115 [(.int .i64 (periods.getD x.toNat (0 : Int)))] (.bool y_2) []) ∧ ((True) ∧ (True))) := ⟨trivial, ⟨F115_ok n (periods.getD x.toNat (0 : Int)) y_2 hx10, ⟨trivial, trivial⟩⟩⟩
            refine TS.reg [.none, (.call (.bool y_2) [])] ?_ ?_
            · apply prop_of ?_ hq
              kernel_rfl
            refine XS.then ?_
            rcases bif_some h with ⟨c11, h⟩ | ⟨c12, h⟩
            · refine TS.cond (!y_2) ?_ (fun e => ?_) (fun e => by rw [c11] at e; cases e)
              · kernel_rfl
              refine TS.seq ?_
              have hq : (True) ∧ (True) := ⟨trivial, trivial⟩
              refine TS.reg [] ?_ ?_
              · apply prop_of ?_ hq
                kernel_rfl
              refine XS.then ?_
              refine TS.ret ?_
              refine XS.blockRet ?_
              refine XS.passR ?_
              refine XS.passR ?_
              refine XS.blockRet ?_
              refine XS.passR ?_
              obtain rfl : (1 : Int) = r := Option.some.inj h
              exact XS.fin [] ((True) ∧ (True)) (by kernel_rfl) ⟨trivial, trivial⟩
            · refine TS.cond (!y_2) ?_ (fun e => by rw [c12] at e; cases e) (fun e => ?_)
              · kernel_rfl
              refine TS.skip ?_
              refine XS.blockEnd ?_
              refine XS.then ?_
              have hq : (True) ∧ ((True) ∧ (True)) := ⟨trivial, ⟨trivial, trivial⟩⟩
              refine TS.reg [] ?_ ?_
              · apply prop_of ?_ hq
                kernel_rfl
              refine XS.reAny [] (mkMask 28 [18, 19, 20]) (IntKind.wrap .i64 (x + (1 : Int))) h ?_
              kernel_rfl
          · refine TS.cond (decide (x < ((periods.length : Nat) : Int))) ?_ (fun e => by rw [c8] at e; cases e) (fun e => ?_)
            · kernel_rfl
            refine TS.exit ?_
            refine XS.passE ?_
            refine XS.passE ?_
            refine XS.out ?_
            refine XS.then ?_
            refine TS.seq ?_
            have hq : (True) ∧ (True) := ⟨trivial, trivial⟩
            refine TS.reg [] ?_ ?_
            · apply prop_of ?_ hq
              kernel_rfl
            refine XS.then ?_
            refine TS.ret ?_
            obtain rfl : (0 : Int) = r := Option.some.inj h
            exact XS.fin [] ((True) ∧ (True)) (by kernel_rfl) ⟨trivial, trivial⟩

/-! plugtree/budget.conflict -/
def F89 (n : Nat) (a_Lane : Int) (a_Phase : Int) (b_Lane : Int) (b_Phase : Int) (p : Int) (q : Int) : Option Bool := (bif (a_Lane == b_Lane) then (bif ((if q < p then q else p) != 0) then (some ((a_Phase.tmod (if q < p then q else p)) == (b_Phase.tmod (if q < p then q else p)))) else none) else (some false))
theorem F89_ok (n : Nat) (a_Lane : Int) (a_Phase : Int) (b_Lane : Int) (b_Phase : Int) (p : Int) (q : Int) (r : Bool) (h : F89 n a_Lane a_Phase b_Lane b_Phase p q = some r) : PureC Try.prog 89 [(.st (.cons (.int .i64 a_Lane) (.int .i64 a_Phase))), (.st (.cons (.int .i64 b_Lane) (.int .i64 b_Phase))), (.int .i64 p), (.int .i64 q)] (.bool r) [] := by
  refine PureC.mkS Try.func89 rfl rfl ?_
  intro w0 fz0 hfz
  replace h : (bif (a_Lane == b_Lane) then (bif ((if q < p then q else p) != 0) then (some ((a_Phase.tmod (if q < p then q else p)) == (b_Phase.tmod (if q < p then q else p)))) else none) else (some false)) = some r := h
  refine TS.seq ?_
  have hq : (True) ∧ ((True) ∧ ((True) ∧ (True))) := ⟨trivial, ⟨trivial, ⟨trivial, trivial⟩⟩⟩
  refine TS.reg [] ?_ ?_
  · apply prop_of ?_ hq
    kernel_rfl
  refine XS.then ?_
  refine TS.seq ?_
  have hq : (True) ∧ ((True) ∧ ((True) ∧ ((True) ∧ (True)))) := ⟨trivial, ⟨trivial, ⟨trivial, ⟨trivial, trivial⟩⟩⟩⟩
  refine TS.reg [] ?_ ?_
  · apply prop_of ?_ hq
    kernel_rfl
  refine XS.then ?_
  refine TS.seq ?_
  rcases bif_some h with ⟨c1, h⟩ | ⟨c2, h⟩
  · obtain ⟨t3, h⟩ := test_some h
    have hq : ((True) ∧ ((True) ∧ ((True) ∧ ((True) ∧ ((True) ∧ (((True) ∧ (a_Lane == b_Lane) = true) ∧ ((True) ∧ ((True) ∧ ((True) ∧ (((if q < p then q else p) ≠ 0) ∧ ((True) ∧ ((True) ∧ ((True) ∧ (((if q < p then q else p) ≠ 0) ∧ ((True) ∧ ((True) ∧ (True))))))))))))))))) ∧ ((True) ∧ (True)) := ⟨⟨trivial, ⟨trivial, ⟨trivial, ⟨trivial, ⟨trivial, ⟨⟨trivial, c1⟩, ⟨trivial, ⟨trivial, ⟨trivial, ⟨bne_ok t3, ⟨trivial, ⟨trivial, ⟨trivial, ⟨bne_ok t3, ⟨trivial, ⟨trivial, trivial⟩⟩⟩⟩⟩⟩⟩⟩⟩⟩⟩⟩⟩⟩⟩⟩, ⟨trivial, trivial⟩⟩
    refine TS.draw 16 [] [.none, .none, .none, .none, .none, .dec true] (by kernel_rfl) ?_ ?_
    · apply prop_of ?_ hq
      kernel_rfl
    refine XS.then ?_
    refine TS.ret ?_
    obtain rfl : ((a_Phase.tmod (if q < p then q else p)) == (b_Phase.tmod (if q < p then q else p))) = r := Option.some.inj h
    exact XS.fin [] ((True) ∧ (True)) (by kernel_rfl) ⟨trivial, trivial⟩
  · have hq : ((True) ∧ ((True) ∧ ((True) ∧ ((True) ∧ ((True) ∧ (((True) ∧ (a_Lane == b_Lane) = false) ∧ ((True) ∧ (True)))))))) ∧ ((True) ∧ (True)) := ⟨⟨trivial, ⟨trivial, ⟨trivial, ⟨trivial, ⟨trivial, ⟨⟨trivial, c2⟩, ⟨trivial, trivial⟩⟩⟩⟩⟩⟩⟩, ⟨trivial, trivial⟩⟩
    refine TS.draw 16 [] [.none, .none, .none, .none, .none, .dec false] (by kernel_rfl) ?_ ?_
    · apply prop_of ?_ hq
      kernel_rfl
    refine XS.then ?_
    refine TS.ret ?_
    obtain rfl : false = r := Option.some.inj h
    exact XS.fin [] ((True) ∧ (True)) (by kernel_rfl) ⟨trivial, trivial⟩

/-! plugtree/budget.Check -/
def F39_l20 (n : Nat) (k39_19 : Int → Option Int) (periods : List Int) (plan : List (Int × Int)) (x_2 : Int) (k39_20 : Int → Option Int) : Int → Option Int
  | x_3 => (bif (decide (x_3 < x_2)) then (bif inb x_3 plan.length then (bif inb x_2 periods.length then (bif inb x_3 periods.length then ((F89 n ((plan.getD x_2.toNat ((0 : Int), (0 : Int))).1) ((plan.getD x_2.toNat ((0 : Int), (0 : Int))).2) ((plan.getD x_3.toNat ((0 : Int), (0 : Int))).1) ((plan.getD x_3.toNat ((0 : Int), (0 : Int))).2) (periods.getD x_2.toNat (0 : Int)) (periods.getD x_3.toNat (0 : Int))).bind fun y_3 => (bif y_3 then (some (13 : Int)) else (k39_20 (IntKind.wrap .i64 (x_3 + (1 : Int)))))) else none) else none) else none) else (k39_19 (IntKind.wrap .i64 (x_2 + (1 : Int)))))
def F39_l19 (n : Nat) (periods : List Int) (plan : List (Int × Int)) (k39_19 : Int → Option Int) : Int → Option Int
  | x_2 => (bif (decide (x_2 < ((plan.length : Nat) : Int))) then (bif inb x_2 plan.length then (loopF (F39_l20 n k39_19 periods plan x_2) n (0 : Int)) else none) else (some (0 : Int)))
def F39_l16 (n : Nat) (periods : List Int) (plan : List (Int × Int)) (lanes : Int) (k39_16 : Int → Option Int) : Int → Option Int
  | x => (bif (decide (x < ((plan.length : Nat) : Int))) then (bif inb x plan.length then (bif (decide ((plan.getD x.toNat ((0 : Int), (0 : Int))).1 < (0 : Int))) then (some (1 : Int)) else (bif (decide ((plan.getD x.toNat ((0 : Int), (0 : Int))).1 ≥ lanes)) then (some (1 : Int)) else (bif (decide ((plan.getD x.toNat ((0 : Int), (0 : Int))).2 < (0 : Int))) then (some (1 : Int)) else (bif inb x periods.length then (bif (decide ((plan.getD x.toNat ((0 : Int), (0 : Int))).2 ≥ (periods.getD x.toNat (0 : Int)))) then (some (1 : Int)) else (k39_16 (IntKind.wrap .i64 (x + (1 : Int))))) else none)))) else none) else (loopF (F39_l19 n periods plan) n (0 : Int)))
def F39 (n : Nat) (periods : List Int) (plan : List (Int × Int)) (lanes : Int) : Option Int := ((F88 n periods lanes).bind fun y_2 => (bif (y_2 != (0 : Int)) then (some y_2) else (bif (((plan.length : Nat) : Int) != ((periods.length : Nat) : Int)) then (some (4 : Int)) else (loopF (F39_l16 n periods plan lanes) n (0 : Int)))))
theorem F39_ok (n : Nat) (periods : List Int) (plan : List (Int × Int)) (lanes : Int) (r : Int) (h : F39 n periods plan lanes = some r) : PureC Try.prog 39 [(.sl (.int .i64) periods), (.sl (.st (.pair (.int .i64) (.int .i64))) plan), (.int .i64 lanes)] (.int .i64 r) [] := by
  refine PureC.mkS Try.func39 rfl rfl ?_
  intro w0 fz0 hfz
  replace h : ((F88 n periods lanes).bind fun y_2 => (bif (y_2 != (0 : Int)) then (some y_2) else (bif (((plan.length : Nat) : Int) != ((periods.length : Nat) : Int)) then (some (4 : Int)) else (loopF (F39_l16 n periods plan lanes) n (0 : Int))))) = some r := h
  refine TS.seq ?_
  have hq : (True) ∧ (True) := ⟨trivial, trivial⟩
  refine TS.reg [] ?_ ?_
  · apply prop_of ?_ hq
    kernel_rfl
  refine XS.then ?_
  refine TS.seq ?_
  refine TS.seq ?_
  obtain ⟨y_2, hx1, h⟩ := bind_some' h
  have hq : (True) ∧ ((True) ∧ ((PureC Try.prog 88 [(.sl (.int .i64) periods), (.int .i64 lanes)] (.int .i64 y_2) []) ∧ ((True) ∧ (True)))) := ⟨trivial, ⟨trivial, ⟨F88_ok n periods lanes y_2 hx1, ⟨trivial, trivial⟩⟩⟩⟩
  refine TS.reg [.none, .none, (.call (.int .i64 y_2) [])] ?_ ?_
  · apply prop_of ?_ hq
    kernel_rfl
  refine XS.then ?_
  refine TS.seq ?_
  have hq : (True) ∧ ((True) ∧ (True)) := ⟨trivial, ⟨trivial, trivial⟩⟩
  refine TS.reg [] ?_ ?_
  · apply prop_of ?_ hq
    kernel_rfl
  refine XS.then ?_
  rcases bif_some h with ⟨c2, h⟩ | ⟨c3, h⟩
  · refine TS.cond (y_2 != (0 : Int)) ?_ (fun e => ?_) (fun e => by rw [c2] at e; cases e)
    · kernel_rfl
    refine TS.seq ?_
    have hq : (True) ∧ ((True) ∧ (True)) := ⟨trivial, ⟨trivial, trivial⟩⟩
    refine TS.reg [] ?_ ?_
    · apply prop_of ?_ hq
      kernel_rfl
    refine XS.then ?_
    refine TS.ret ?_
    refine XS.passR ?_
    obtain rfl : y_2 = r := Option.some.inj h
    exact XS.fin [] ((True) ∧ (True)) (by kernel_rfl) ⟨trivial, trivial⟩
  · refine TS.cond (y_2 != (0 : Int)) ?_ (fun e => by rw [c3] at e; cases e) (fun e => ?_)
    · kernel_rfl
    refine TS.skip ?_
    refine XS.then ?_
    refine TS.seq ?_
    refine TS.seq ?_
    have hq : (True) ∧ ((True) ∧ ((True) ∧ ((True) ∧ ((True) ∧ (True))))) := ⟨trivial, ⟨trivial, ⟨trivial, ⟨trivial, ⟨trivial, trivial⟩⟩⟩⟩⟩
    refine TS.reg [] ?_ ?_
    · apply prop_of ?_ hq
      kernel_rfl
    refine XS.then ?_
    rcases bif_some h with ⟨c4, h⟩ | ⟨c5, h⟩
    · refine TS.cond (((plan.length : Nat) : Int) != ((periods.length : Nat) : Int)) ?_ (fun e => ?_) (fun e => by rw [c4] at e; cases e)
      · kernel_rfl
      refine TS.seq ?_
      have hq : (True) ∧ (True) := ⟨trivial, trivial⟩
      refine TS.reg [] ?_ ?_
      · apply prop_of ?_ hq
        kernel_rfl
      refine XS.then ?_
      refine TS.ret ?_
      refine XS.passR ?_
      obtain rfl : (4 : Int) = r := Option.some.inj h
      exact XS.fin [] ((True) ∧ (True)) (by kernel_rfl) ⟨trivial, trivial⟩
    · refine TS.cond (((plan.length : Nat) : Int) != ((periods.length : Nat) : Int)) ?_ (fun e => by rw [c5] at e; cases e) (fun e => ?_)
      · kernel_rfl
      refine TS.skip ?_
      refine XS.then ?_
      refine TS.seq ?_
      refine TS.seq ?_
      have hq : (True) ∧ ((True) ∧ ((True) ∧ (True))) := ⟨trivial, ⟨trivial, ⟨trivial, trivial⟩⟩⟩
      refine TS.reg [] ?_ ?_
      · apply prop_of ?_ hq
        kernel_rfl
      refine XS.then ?_
      refine TS.block ?_
      refine TS.reLoop [] (mkMask 82 [0, 1, 2, 24, 25, 26]) (D := Int) (fun d => match d with | x => (mkTs 82 [(0, (.sl (.int .i64) periods)), (1, (.sl (.st (.pair (.int .i64) (.int .i64))) plan)), (2, (.int .i64 lanes)), (24, (.sl (.st (.pair (.int .i64) (.int .i64))) plan)), (25, (.int .i64 ((plan.length : Nat) : Int))), (26, (.int .i64 x))], [])) (fun n' d => loopF (F39_l16 n periods plan lanes) n' d = some r) n (0 : Int) h ?_ (fun d => loopF_zero _ d r) ?_
      · kernel_rfl
      · rintro n16 x h
        replace h : (bif (decide (x < ((plan.length : Nat) : Int))) then (bif inb x plan.length then (bif (decide ((plan.getD x.toNat ((0 : Int), (0 : Int))).1 < (0 : Int))) then (some (1 : Int)) else (bif (decide ((plan.getD x.toNat ((0 : Int), (0 : Int))).1 ≥ lanes)) then (some (1 : Int)) else (bif (decide ((plan.getD x.toNat ((0 : Int), (0 : Int))).2 < (0 : Int))) then (some (1 : Int)) else (bif inb x periods.length then (bif (decide ((plan.getD x.toNat ((0 : Int), (0 : Int))).2 ≥ (periods.getD x.toNat (0 : Int)))) then (some (1 : Int)) else ((loopF (F39_l16 n periods plan lanes) n16) (IntKind.wrap .i64 (x + (1 : Int))))) else none)))) else none) else (loopF (F39_l19 n periods plan) n (0 : Int))) = some r := h
        refine TS.seq ?_
        have hq : (True) ∧ (True) := ⟨trivial, trivial⟩
        refine TS.reg [] ?_ ?_
        · apply prop_of ?_ hq
          kernel_rfl
        refine XS.then ?_
        refine TS.seq ?_
        rcases bif_some h with ⟨c6, h⟩ | ⟨c7, h⟩
        · refine TS.cond (decide (x < ((plan.length : Nat) : Int))) ?_ (fun e => ?_) (fun e => by rw [c6] at e; cases e)
          · kernel_rfl
          refine TS.skip ?_
          refine XS.then ?_
          refine TS.seq ?_
          refine TS.block ?_
          refine TS.seq ?_
          obtain ⟨t8, h⟩ := test_some h
          have hq : (True) ∧ ((inR x plan.length) ∧ ((True) ∧ ((True) ∧ ((True) ∧ ((True) ∧ (True)))))) := ⟨trivial, ⟨inb_ok t8, ⟨trivial, ⟨trivial, ⟨trivial, ⟨trivial, trivial⟩⟩⟩⟩⟩⟩
          refine TS.reg [] ?_ ?_
          · apply prop_of ?_ hq
            kernel_rfl
          refine XS.then ?_
          refine TS.seq ?_
          rcases bif_some h with ⟨c9, h⟩ | ⟨c10, h⟩
          · have hq : ((True) ∧ ((True) ∧ ((True) ∧ (((True) ∧ (decide ((plan.getD x.toNat ((0 : Int), (0 : Int))).1 < (0 : Int))) = true) ∧ ((True) ∧ ((True) ∧ ((True) ∧ ((True) ∧ ((True) ∧ (True)))))))))) ∧ (True) := ⟨⟨trivial, ⟨trivial, ⟨trivial, ⟨⟨trivial, c9⟩, ⟨trivial, ⟨trivial, ⟨trivial, ⟨trivial, ⟨trivial, trivial⟩⟩⟩⟩⟩⟩⟩⟩⟩, trivial⟩
            refine TS.draw 23 [] [.none, .none, .none, .dec true] (by kernel_rfl) ?_ ?_
            · apply prop_of ?_ hq
              kernel_rfl
            refine XS.then ?_
            refine TS.yes ?_ ?_
            · kernel_rfl
            refine TS.seq ?_
            have hq : (True) ∧ (True) := ⟨trivial, trivial⟩
            refine TS.reg [] ?_ ?_
            · apply prop_of ?_ hq
              kernel_rfl
            refine XS.then ?_
            refine TS.ret ?_
            refine XS.blockRet ?_
            refine XS.passR ?_
            refine XS.passR ?_
            refine XS.blockRet ?_
            refine XS.passR ?_
            obtain rfl : (1 : Int) = r := Option.some.inj h
            exact XS.fin [] ((True) ∧ (True)) (by kernel_rfl) ⟨trivial, trivial⟩
          · rcases bif_some h with ⟨c11, h⟩ | ⟨c12, h⟩
            · have hq : ((True) ∧ ((True) ∧ ((True) ∧ (((True) ∧ (decide ((plan.getD x.toNat ((0 : Int), (0 : Int))).1 < (0 : Int))) = false) ∧ ((True) ∧ ((True) ∧ ((True) ∧ ((True) ∧ ((True) ∧ (((True) ∧ (decide ((plan.getD x.toNat ((0 : Int), (0 : Int))).1 ≥ lanes)) = true) ∧ ((True) ∧ ((True) ∧ ((True) ∧ (True)))))))))))))) ∧ (True) := ⟨⟨trivial, ⟨trivial, ⟨trivial, ⟨⟨trivial, c10⟩, ⟨trivial, ⟨trivial, ⟨trivial, ⟨trivial, ⟨trivial, ⟨⟨trivial, c11⟩, ⟨trivial, ⟨trivial, ⟨trivial, trivial⟩⟩⟩⟩⟩⟩⟩⟩⟩⟩⟩⟩⟩, trivial⟩
              refine TS.draw 23 [] [.none, .none, .none, .dec false, .none, .none, .none, .none, .none, .dec true] (by kernel_rfl) ?_ ?_
              · apply prop_of ?_ hq
                kernel_rfl
              refine XS.then ?_
              refine TS.yes ?_ ?_
              · kernel_rfl
              refine TS.seq ?_
              have hq : (True) ∧ (True) := ⟨trivial, trivial⟩
              refine TS.reg [] ?_ ?_
              · apply prop_of ?_ hq
                kernel_rfl
              refine XS.then ?_
              refine TS.ret ?_
              refine XS.blockRet ?_
              refine XS.passR ?_
              refine XS.passR ?_
              refine XS.blockRet ?_
              refine XS.passR ?_
              obtain rfl : (1 : Int) = r := Option.some.inj h
              exact XS.fin [] ((True) ∧ (True)) (by kernel_rfl) ⟨trivial, trivial⟩
            · rcases bif_some h with ⟨c13, h⟩ | ⟨c14, h⟩
              · have hq : ((True) ∧ ((True) ∧ ((True) ∧ (((True) ∧ (decide ((plan.getD x.toNat ((0 : Int), (0 : Int))).1 < (0 : Int))) = false) ∧ ((True) ∧ ((True) ∧ ((True) ∧ ((True) ∧ ((True) ∧ (((True) ∧ (decide ((plan.getD x.toNat ((0 : Int), (0 : Int))).1 ≥ lanes)) = false) ∧ ((True) ∧ ((True) ∧ ((True) ∧ ((True) ∧ (((True) ∧ (decide ((plan.getD x.toNat ((0 : Int), (0 : Int))).2 < (0 : Int))) = true) ∧ ((True) ∧ (True))))))))))))))))) ∧ (True) := ⟨⟨trivial, ⟨trivial, ⟨trivial, ⟨⟨trivial, c10⟩, ⟨trivial, ⟨trivial, ⟨trivial, ⟨trivial, ⟨trivial, ⟨⟨trivial, c12⟩, ⟨trivial, ⟨trivial, ⟨trivial, ⟨trivial, ⟨⟨trivial, c13⟩, ⟨trivial, trivial⟩⟩⟩⟩⟩⟩⟩⟩⟩⟩⟩⟩⟩⟩⟩⟩, trivial⟩
                refine TS.draw 23 [] [.none, .none, .none, .dec false, .none, .none, .none, .none, .none, .dec false, .none, .none, .none, .none, .dec true] (by kernel_rfl) ?_ ?_
                · apply prop_of ?_ hq
                  kernel_rfl
                refine XS.then ?_
                refine TS.yes ?_ ?_
                · kernel_rfl
                refine TS.seq ?_
                have hq : (True) ∧ (True) := ⟨trivial, trivial⟩
                refine TS.reg [] ?_ ?_
                · apply prop_of ?_ hq
                  kernel_rfl
                refine XS.then ?_
                refine TS.ret ?_
                refine XS.blockRet ?_
                refine XS.passR ?_
                refine XS.passR ?_
                refine XS.blockRet ?_
                refine XS.passR ?_
                obtain rfl : (1 : Int) = r := Option.some.inj h
                exact XS.fin [] ((True) ∧ (True)) (by kernel_rfl) ⟨trivial, trivial⟩
              · obtain ⟨t15, h⟩ := test_some h
                have hq : ((True) ∧ ((True) ∧ ((True) ∧ (((True) ∧ (decide ((plan.getD x.toNat ((0 : Int), (0 : Int))).1 < (0 : Int))) = false) ∧ ((True) ∧ ((True) ∧ ((True) ∧ ((True) ∧ ((True) ∧ (((True) ∧ (decide ((plan.getD x.toNat ((0 : Int), (0 : Int))).1 ≥ lanes)) = false) ∧ ((True) ∧ ((True) ∧ ((True) ∧ ((True) ∧ (((True) ∧ (decide ((plan.getD x.toNat ((0 : Int), (0 : Int))).2 < (0 : Int))) = false) ∧ ((True) ∧ ((True) ∧ ((True) ∧ ((True) ∧ ((inR x periods.length) ∧ ((True) ∧ ((True) ∧ ((True) ∧ (True)))))))))))))))))))))))) ∧ (True) := ⟨⟨trivial, ⟨trivial, ⟨trivial, ⟨⟨trivial, c10⟩, ⟨trivial, ⟨trivial, ⟨trivial, ⟨trivial, ⟨trivial, ⟨⟨trivial, c12⟩, ⟨trivial, ⟨trivial, ⟨trivial, ⟨trivial, ⟨⟨trivial, c14⟩, ⟨trivial, ⟨trivial, ⟨trivial, ⟨trivial, ⟨inb_ok t15, ⟨trivial, ⟨trivial, ⟨trivial, trivial⟩⟩⟩⟩⟩⟩⟩⟩⟩⟩⟩⟩⟩⟩⟩⟩⟩⟩⟩⟩⟩⟩⟩, trivial⟩
                refine TS.draw 23 [] [.none, .none, .none, .dec false, .none, .none, .none, .none, .none, .dec false, .none, .none, .none, .none, .dec false] (by kernel_rfl) ?_ ?_
                · apply prop_of ?_ hq
                  kernel_rfl
                refine XS.then ?_
                rcases bif_some h with ⟨c16, h⟩ | ⟨c17, h⟩
                · refine TS.cond (decide ((plan.getD x.toNat ((0 : Int), (0 : Int))).2 ≥ (periods.getD x.toNat (0 : Int)))) ?_ (fun e => ?_) (fun e => by rw [c16] at e; cases e)
                  · kernel_rfl
                  refine TS.seq ?_
                  have hq : (True) ∧ (True) := ⟨trivial, trivial⟩
                  refine TS.reg [] ?_ ?_
                  · apply prop_of ?_ hq
                    kernel_rfl
                  refine XS.then ?_
                  refine TS.ret ?_
                  refine XS.blockRet ?_
                  refine XS.passR ?_
                  refine XS.passR ?_
                  refine XS.blockRet ?_
                  refine XS.passR ?_
                  obtain rfl : (1 : Int) = r := Option.some.inj h
                  exact XS.fin [] ((True) ∧ (True)) (by kernel_rfl) ⟨trivial, trivial⟩
                · refine TS.cond (decide ((plan.getD x.toNat ((0 : Int), (0 : Int))).2 ≥ (periods.getD x.toNat (0 : Int)))) ?_ (fun e => by rw [c17] at e; cases e) (fun e => ?_)
                  · kernel_rfl
                  refine TS.skip ?_
                  refine XS.blockEnd ?_
                  refine XS.then ?_
                  have hq : (True) ∧ ((True) ∧ (True)) := ⟨trivial, ⟨trivial, trivial⟩⟩
                  refine TS.reg [] ?_ ?_
                  · apply prop_of ?_ hq
                    kernel_rfl
                  refine XS.reAny [] (mkMask 82 [0, 1, 2, 24, 25, 26]) (IntKind.wrap .i64 (x + (1 : Int))) h ?_
                  kernel_rfl
        · refine TS.cond (decide (x < ((plan.length : Nat) : Int))) ?_ (fun e => by rw [c7] at e; cases e) (fun e => ?_)
          · kernel_rfl
          refine TS.exit ?_
          refine XS.passE ?_
          refine XS.passE ?_
          refine XS.out ?_
          refine XS.then ?_
          refine TS.seq ?_
          refine TS.seq ?_
          have hq : (True) ∧ ((True) ∧ ((True) ∧ (True))) := ⟨trivial, ⟨trivial, ⟨trivial, trivial⟩⟩⟩
          refine TS.reg [] ?_ ?_
          · apply prop_of ?_ hq
            kernel_rfl
          refine XS.then ?_
          refine TS.block ?_
          refine TS.reLoop [] (mkMask 82 [0, 1, 55, 56, 57]) (D := Int) (fun d => match d with | x_2 => (mkTs 82 [(0, (.sl (.int .i64) periods)), (1, (.sl (.st (.pair (.int .i64) (.int .i64))) plan)), (55, (.sl (.st (.pair (.int .i64) (.int .i64))) plan)), (56, (.int .i64 ((plan.length : Nat) : Int))), (57, (.int .i64 x_2))], [])) (fun n' d => loopF (F39_l19 n periods plan) n' d = some r) n (0 : Int) h ?_ (fun d => loopF_zero _ d r) ?_
          · kernel_rfl
          · rintro n19 x_2 h
            replace h : (bif (decide (x_2 < ((plan.length : Nat) : Int))) then (bif inb x_2 plan.length then (loopF (F39_l20 n (loopF (F39_l19 n periods plan) n19) periods plan x_2) n (0 : Int)) else none) else (some (0 : Int))) = some r := h
            refine TS.seq ?_
            have hq : (True) ∧ (True) := ⟨trivial, trivial⟩
            refine TS.reg [] ?_ ?_
            · apply prop_of ?_ hq
              kernel_rfl
            refine XS.then ?_
            refine TS.seq ?_
            rcases bif_some h with ⟨c18, h⟩ | ⟨c19, h⟩
            · refine TS.cond (decide (x_2 < ((plan.length : Nat) : Int))) ?_ (fun e => ?_) (fun e => by rw [c18] at e; cases e)
              · kernel_rfl
              refine TS.skip ?_
              refine XS.then ?_
              refine TS.seq ?_
              refine TS.block ?_
              refine TS.seq ?_
              obtain ⟨t20, h⟩ := test_some h
              have hq : (True) ∧ ((inR x_2 plan.length) ∧ ((True) ∧ ((True) ∧ ((True) ∧ ((True) ∧ (True)))))) := ⟨trivial, ⟨inb_ok t20, ⟨trivial, ⟨trivial, ⟨trivial, ⟨trivial, trivial⟩⟩⟩⟩⟩⟩
              refine TS.reg [] ?_ ?_
              · apply prop_of ?_ hq
                kernel_rfl
              refine XS.then ?_
              refine TS.seq ?_
              have hq : (True) ∧ ((True) ∧ (True)) := ⟨trivial, ⟨trivial, trivial⟩⟩
              refine TS.reg [] ?_ ?_
              · apply prop_of ?_ hq
                kernel_rfl
              refine XS.then ?_
              refine TS.block ?_
              refine TS.reLoop [0] (mkMask 82 [0, 1, 10, 11, 55, 56, 57, 62, 63]) (D := Int) (fun d => match d with | x_3 => (mkTs 82 [(0, (.sl (.int .i64) periods)), (1, (.sl (.st (.pair (.int .i64) (.int .i64))) plan)), (10, (.int .i64 x_2)), (11, (.ptr 0 [])), (55, (.sl (.st (.pair (.int .i64) (.int .i64))) plan)), (56, (.int .i64 ((plan.length : Nat) : Int))), (57, (.int .i64 x_2)), (62, (.int .i64 x_2)), (63, (.int .i64 x_3))], [(.box 120 (.st (.cons (.int .i64 (plan.getD x_2.toNat ((0 : Int), (0 : Int))).1) (.int .i64 (plan.getD x_2.toNat ((0 : Int), (0 : Int))).2))))])) (fun n' d => loopF (F39_l20 n (loopF (F39_l19 n periods plan) n19) periods plan x_2) n' d = some r) n (0 : Int) h ?_ (fun d => loopF_zero _ d r) ?_
              · kernel_rfl
              · rintro n20 x_3 h
                replace h : (bif (decide (x_3 < x_2)) then (bif inb x_3 plan.length then (bif inb x_2 periods.length then (bif inb x_3 periods.length then ((F89 n ((plan.getD x_2.toNat ((0 : Int), (0 : Int))).1) ((plan.getD x_2.toNat ((0 : Int), (0 : Int))).2) ((plan.getD x_3.toNat ((0 : Int), (0 : Int))).1) ((plan.getD x_3.toNat ((0 : Int), (0 : Int))).2) (periods.getD x_2.toNat (0 : Int)) (periods.getD x_3.toNat (0 : Int))).bind fun y_3 => (bif y_3 then (some (13 : Int)) else ((loopF (F39_l20 n (loopF (F39_l19 n periods plan) n19) periods plan x_2) n20) (IntKind.wrap .i64 (x_3 + (1 : Int)))))) else none) else none) else none) else ((loopF (F39_l19 n periods plan) n19) (IntKind.wrap .i64 (x_2 + (1 : Int))))) = some r := h
                refine TS.seq ?_
                have hq : (True) ∧ (True) := ⟨trivial, trivial⟩
                refine TS.reg [] ?_ ?_
                · apply prop_of ?_ hq
                  kernel_rfl
                refine XS.then ?_
                refine TS.seq ?_
                rcases bif_some h with ⟨c21, h⟩ | ⟨c22, h⟩
                · refine TS.cond (decide (x_3 < x_2)) ?_ (fun e => ?_) (fun e => by rw [c21] at e; cases e)
                  · kernel_rfl
                  refine TS.skip ?_
                  refine XS.then ?_
                  refine TS.seq ?_
                  refine TS.block ?_
                  refine TS.seq ?_
                  have hq : (True) ∧ ((True) ∧ (True)) := ⟨trivial, ⟨trivial, trivial⟩⟩
                  refine TS.reg [] ?_ ?_
                  · apply prop_of ?_ hq
                    kernel_rfl
                  refine XS.then ?_
                  refine TS.seq ?_
                  obtain ⟨t23, h⟩ := test_some h
                  obtain ⟨t24, h⟩ := test_some h
                  obtain ⟨t25, h⟩ := test_some h
                  obtain ⟨y_3, hx26, h⟩ := bind_some' h
                  have hq : ((True) ∧ ((True) ∧ ((True) ∧ ((inR x_3 plan.length) ∧ ((True) ∧ ((True) ∧ ((True) ∧ ((inR x_2 periods.length) ∧ ((True) ∧ ((True) ∧ ((True) ∧ ((inR x_3 periods.length) ∧ ((True) ∧ ((PureC Try.prog 89 [(.st (.cons (.int .i64 (plan.getD x_2.toNat ((0 : Int), (0 : Int))).1) (.int .i64 (plan.getD x_2.toNat ((0 : Int), (0 : Int))).2))), (.st (.cons (.int .i64 (plan.getD x_3.toNat ((0 : Int), (0 : Int))).1) (.int .i64 (plan.getD x_3.toNat ((0 : Int), (0 : Int))).2))), (.int .i64 (periods.getD x_2.toNat (0 : Int))), (.int .i64 (periods.getD x_3.toNat (0 : Int)))] (.bool y_3) []) ∧ (True))))))))))))))) ∧ (True) := ⟨⟨trivial, ⟨trivial, ⟨trivial, ⟨inb_ok t23, ⟨trivial, ⟨trivial, ⟨trivial, ⟨inb_ok t24, ⟨trivial, ⟨trivial, ⟨trivial, ⟨inb_ok t25, ⟨trivial, ⟨F89_ok n ((plan.getD x_2.toNat ((0 : Int), (0 : Int))).1) ((plan.getD x_2.toNat ((0 : Int), (0 : Int))).2) ((plan.getD x_3.toNat ((0 : Int), (0 : Int))).1) ((plan.getD x_3.toNat ((0 : Int), (0 : Int))).2) (periods.getD x_2.toNat (0 : Int)) (periods.getD x_3.toNat (0 : Int)) y_3 hx26, trivial⟩⟩⟩⟩⟩⟩⟩⟩⟩⟩⟩⟩⟩⟩, trivial⟩
                  refine TS.draw 14 [] [.none, .none, .none, .none, .none, .none, .none, .none, .none, .none, .none, .none, .none, (.call (.bool y_3) [])] (by kernel_rfl) ?_ ?_
                  · apply prop_of ?_ hq
                    kernel_rfl
                  refine XS.then ?_
                  rcases bif_some h with ⟨c27, h⟩ | ⟨c28, h⟩
                  · refine TS.cond y_3 ?_ (fun e => ?_) (fun e => by rw [c27] at e; cases e)
                    · kernel_rfl
                    refine TS.seq ?_
                    have hq : (True) ∧ (True) := ⟨trivial, trivial⟩
                    refine TS.reg [] ?_ ?_
                    · apply prop_of ?_ hq
                      kernel_rfl
                    refine XS.then ?_
                    refine TS.ret ?_
                    refine XS.blockRet ?_
                    refine XS.passR ?_
                    refine XS.passR ?_
                    refine XS.blockRet ?_
                    refine XS.blockRet ?_
                    refine XS.passR ?_
                    refine XS.passR ?_
                    refine XS.blockRet ?_
                    refine XS.passR ?_
                    obtain rfl : (13 : Int) = r := Option.some.inj h
                    exact XS.fin [] ((True) ∧ (True)) (by kernel_rfl) ⟨trivial, trivial⟩
                  · refine TS.cond y_3 ?_ (fun e => by rw [c28] at e; cases e) (fun e => ?_)
                    · kernel_rfl
                    refine TS.skip ?_
                    refine XS.blockEnd ?_
                    refine XS.then ?_
                    have hq : (True) ∧ ((True) ∧ (True)) := ⟨trivial, ⟨trivial, trivial⟩⟩
                    refine TS.reg [] ?_ ?_
                    · apply prop_of ?_ hq
                      kernel_rfl
                    refine XS.reAny [0] (mkMask 82 [0, 1, 10, 11, 55, 56, 57, 62, 63]) (IntKind.wrap .i64 (x_3 + (1 : Int))) h ?_
                    kernel_rfl
                · refine TS.cond (decide (x_3 < x_2)) ?_ (fun e => by rw [c22] at e; cases e) (fun e => ?_)
                  · kernel_rfl
                  refine TS.exit ?_
                  refine XS.passE ?_
                  refine XS.passE ?_
                  refine XS.out ?_
                  refine XS.blockEnd ?_
                  refine XS.then ?_
                  have hq : (True) ∧ ((True) ∧ (True)) := ⟨trivial, ⟨trivial, trivial⟩⟩
                  refine TS.reg [] ?_ ?_
                  · apply prop_of ?_ hq
                    kernel_rfl
                  refine XS.reAny [] (mkMask 82 [0, 1, 55, 56, 57]) (IntKind.wrap .i64 (x_2 + (1 : Int))) h ?_
                  kernel_rfl
            · refine TS.cond (decide (x_2 < ((plan.length : Nat) : Int))) ?_ (fun e => by rw [c19] at e; cases e) (fun e => ?_)
              · kernel_rfl
              refine TS.exit ?_
              refine XS.passE ?_
              refine XS.passE ?_
              refine XS.out ?_
              refine XS.then ?_
              refine TS.seq ?_
              have hq : (True) ∧ (True) := ⟨trivial, trivial⟩
              refine TS.reg [] ?_ ?_
              · apply prop_of ?_ hq
                kernel_rfl
              refine XS.then ?_
              refine TS.ret ?_
              obtain rfl : (0 : Int) = r := Option.some.inj h
              exact XS.fin [] ((True) ∧ (True)) (by kernel_rfl) ⟨trivial, trivial⟩

/-! plugtree/budget.Load -/
def F37_l8 (n : Nat) (k37_7 : (Int × (List Int)) → Option (Int × (List Int))) (periods : List Int) (plan : List (Int × Int)) (frame : Int) (x : Int) (k37_8 : (Int × (List Int)) → Option (Int × (List Int))) : (Int × (List Int)) → Option (Int × (List Int))
  | (x_2, m0_2) => (bif (decide (x_2 < ((plan.length : Nat) : Int))) then (bif inb x_2 plan.length then (bif ((plan.getD x_2.toNat ((0 : Int), (0 : Int))).1 == x) then (bif inb x_2 periods.length then (bif ((periods.getD x_2.toNat (0 : Int)) != 0) then (bif ((frame.tmod (periods.getD x_2.toNat (0 : Int))) == (plan.getD x_2.toNat ((0 : Int), (0 : Int))).2) then (bif (decide (m0_2.length + [x_2].length ≤ 17179869184)) then (k37_8 ((IntKind.wrap .i64 (x_2 + (1 : Int))), (m0_2 ++ [x_2]))) else none) else (k37_8 ((IntKind.wrap .i64 (x_2 + (1 : Int))), m0_2))) else none) else none) else (k37_8 ((IntKind.wrap .i64 (x_2 + (1 : Int))), m0_2))) else none) else (k37_7 ((IntKind.wrap .i64 (x + (1 : Int))), m0_2)))
def F37_l7 (n : Nat) (periods : List Int) (plan : List (Int × Int)) (lanes : Int) (frame : Int) (k37_7 : (Int × (List Int)) → Option (Int × (List Int))) : (Int × (List Int)) → Option (Int × (List Int))
  | (x, m0) => (bif (decide (x < lanes)) then (loopF (F37_l8 n k37_7 periods plan frame x) n ((0 : Int), m0)) else (some ((0 : Int), m0)))
def F37 (n : Nat) (periods : List Int) (plan : List (Int × Int)) (lanes : Int) (frame : Int) : Option (Int × (List Int)) := ((F39 n periods plan lanes).bind fun y_3 => (bif (y_3 != (0 : Int)) then (some (y_3, ([] : List Int))) else (bif (decide (frame < (0 : Int))) then (some ((1 : Int), ([] : List Int))) else (loopF (F37_l7 n periods plan lanes frame) n ((0 : Int), ([] : List Int))))))
theorem F37_ok (n : Nat) (periods : List Int) (plan : List (Int × Int)) (lanes : Int) (frame : Int) (r : Int × (List Int)) (h : F37 n periods plan lanes frame = some r) : PureC Try.prog 37 [(.sl (.int .i64) periods), (.sl (.st (.pair (.int .i64) (.int .i64))) plan), (.int .i64 lanes), (.int .i64 frame)] (.tup (.cons (.row 0) (.cons (.int .i64 r.1) .nil))) [(.row 3 (.int .i64) r.2)] := by
  refine PureC.mkS Try.func37 rfl rfl ?_
  intro w0 fz0 hfz
  replace h : ((F39 n periods plan lanes).bind fun y_3 => (bif (y_3 != (0 : Int)) then (some (y_3, ([] : List Int))) else (bif (decide (frame < (0 : Int))) then (some ((1 : Int), ([] : List Int))) else (loopF (F37_l7 n periods plan lanes frame) n ((0 : Int), ([] : List Int)))))) = some r := h
  refine TS.seq ?_
  have hq : (True) ∧ ((True) ∧ (True)) := ⟨trivial, ⟨trivial, trivial⟩⟩
  refine TS.reg [] ?_ ?_
  · apply prop_of ?_ hq
    kernel_rfl
  refine XS.then ?_
  refine TS.seq ?_
  refine TS.seq ?_
  obtain ⟨y_3, hx1, h⟩ := bind_some' h
  have hq : (True) ∧ ((True) ∧ ((True) ∧ ((PureC Try.prog 39 [(.sl (.int .i64) periods), (.sl (.st (.pair (.int .i64) (.int .i64))) plan), (.int .i64 lanes)] (.int .i64 y_3) []) ∧ ((True) ∧ (True))))) := ⟨trivial, ⟨trivial, ⟨trivial, ⟨F39_ok n periods plan lanes y_3 hx1, ⟨trivial, trivial⟩⟩⟩⟩⟩
  refine TS.reg [.none, .none, .none, (.call (.int .i64 y_3) [])] ?_ ?_
  · apply prop_of ?_ hq
    kernel_rfl
  refine XS.then ?_
  refine TS.seq ?_
  have hq : (True) ∧ ((True) ∧ (True)) := ⟨trivial, ⟨trivial, trivial⟩⟩
  refine TS.reg [] ?_ ?_
  · apply prop_of ?_ hq
    kernel_rfl
  refine XS.then ?_
  rcases bif_some h with ⟨c2, h⟩ | ⟨c3, h⟩
  · refine TS.cond (y_3 != (0 : Int)) ?_ (fun e => ?_) (fun e => by rw [c2] at e; cases e)
    · kernel_rfl
    refine TS.seq ?_
    have hq : (True) ∧ ((True) ∧ ((True) ∧ (True))) := ⟨trivial, ⟨trivial, ⟨trivial, trivial⟩⟩⟩
    refine TS.reg [] ?_ ?_
    · apply prop_of ?_ hq
      kernel_rfl
    refine XS.then ?_
    refine TS.ret ?_
    refine XS.passR ?_
    obtain rfl : (y_3, ([] : List Int)) = r := Option.some.inj h
    refine XS.wk (.row false 8 [] 3 (.int .i64)) ?_
    exact XS.fin [0] ((True) ∧ ((True) ∧ (True))) (by kernel_rfl) ⟨trivial, ⟨trivial, trivial⟩⟩
  · refine TS.cond (y_3 != (0 : Int)) ?_ (fun e => by rw [c3] at e; cases e) (fun e => ?_)
    · kernel_rfl
    refine TS.skip ?_
    refine XS.then ?_
    refine TS.seq ?_
    refine TS.seq ?_
    have hq : (True) ∧ ((True) ∧ (True)) := ⟨trivial, ⟨trivial, trivial⟩⟩
    refine TS.reg [] ?_ ?_
    · apply prop_of ?_ hq
      kernel_rfl
    refine XS.then ?_
    rcases bif_some h with ⟨c4, h⟩ | ⟨c5, h⟩
    · refine TS.cond (decide (frame < (0 : Int))) ?_ (fun e => ?_) (fun e => by rw [c4] at e; cases e)
      · kernel_rfl
      refine TS.seq ?_
      have hq : (True) ∧ ((True) ∧ (True)) := ⟨trivial, ⟨trivial, trivial⟩⟩
      refine TS.reg [] ?_ ?_
      · apply prop_of ?_ hq
        kernel_rfl
      refine XS.then ?_
      refine TS.ret ?_
      refine XS.passR ?_
      obtain rfl : ((1 : Int), ([] : List Int)) = r := Option.some.inj h
      refine XS.wk (.row false 8 [] 3 (.int .i64)) ?_
      exact XS.fin [0] ((True) ∧ ((True) ∧ (True))) (by kernel_rfl) ⟨trivial, ⟨trivial, trivial⟩⟩
    · refine TS.cond (decide (frame < (0 : Int))) ?_ (fun e => by rw [c5] at e; cases e) (fun e => ?_)
      · kernel_rfl
      refine TS.skip ?_
      refine XS.then ?_
      refine TS.seq ?_
      have hq : (True) ∧ (True) := ⟨trivial, trivial⟩
      refine TS.reg [] ?_ ?_
      · apply prop_of ?_ hq
        kernel_rfl
      refine XS.then ?_
      refine TS.seq ?_
      refine TS.seq ?_
      have hq : (True) ∧ ((True) ∧ (True)) := ⟨trivial, ⟨trivial, trivial⟩⟩
      refine TS.reg [] ?_ ?_
      · apply prop_of ?_ hq
        kernel_rfl
      refine XS.then ?_
      refine TS.block ?_
      refine TS.wk (.row false 11 [] 3 (.int .i64)) ?_
      refine TS.reLoop [0] (mkMask 57 [0, 1, 3, 11, 24, 25]) (D := Int × (List Int)) (fun d => match d with | (x, m0) => (mkTs 57 [(0, (.sl (.int .i64) periods)), (1, (.sl (.st (.pair (.int .i64) (.int .i64))) plan)), (3, (.int .i64 frame)), (11, (.row 0)), (24, (.int .i64 lanes)), (25, (.int .i64 x))], [(.row 3 (.int .i64) m0)])) (fun n' d => loopF (F37_l7 n periods plan lanes frame) n' d = some r) n ((0 : Int), ([] : List Int)) h ?_ (fun d => loopF_zero _ d r) ?_
      · kernel_rfl
      · rintro n7 ⟨x, m0⟩ h
        replace h : (bif (decide (x < lanes)) then (loopF (F37_l8 n (loopF (F37_l7 n periods plan lanes frame) n7) periods plan frame x) n ((0 : Int), m0)) else (some ((0 : Int), m0))) = some r := h
        refine TS.seq ?_
        have hq : (True) ∧ (True) := ⟨trivial, trivial⟩
        refine TS.reg [] ?_ ?_
        · apply prop_of ?_ hq
          kernel_rfl
        refine XS.then ?_
        refine TS.seq ?_
        rcases bif_some h with ⟨c6, h⟩ | ⟨c7, h⟩
        · refine TS.cond (decide (x < lanes)) ?_ (fun e => ?_) (fun e => by rw [c6] at e; cases e)
          · kernel_rfl
          refine TS.skip ?_
          refine XS.then ?_
          refine TS.seq ?_
          refine TS.block ?_
          refine TS.seq ?_
          have hq : (True) ∧ ((True) ∧ (True)) := ⟨trivial, ⟨trivial, trivial⟩⟩
          refine TS.reg [] ?_ ?_
          · apply prop_of ?_ hq
            kernel_rfl
          refine XS.then ?_
          refine TS.seq ?_
          have hq : (True) ∧ ((True) ∧ ((True) ∧ (True))) := ⟨trivial, ⟨trivial, ⟨trivial, trivial⟩⟩⟩
          refine TS.reg [] ?_ ?_
          · apply prop_of ?_ hq
            kernel_rfl
          refine XS.then ?_
          refine TS.block ?_
          refine TS.reLoop [0] (mkMask 57 [0, 1, 3, 11, 12, 24, 25, 28, 29, 30]) (D := Int × (List Int)) (fun d => match d with | (x_2, m0_2) => (mkTs 57 [(0, (.sl (.int .i64) periods)), (1, (.sl (.st (.pair (.int .i64) (.int .i64))) plan)), (3, (.int .i64 frame)), (11, (.row 0)), (12, (.int .i64 x)), (24, (.int .i64 lanes)), (25, (.int .i64 x)), (28, (.sl (.st (.pair (.int .i64) (.int .i64))) plan)), (29, (.int .i64 ((plan.length : Nat) : Int))), (30, (.int .i64 x_2))], [(.row 3 (.int .i64) m0_2)])) (fun n' d => loopF (F37_l8 n (loopF (F37_l7 n periods plan lanes frame) n7) periods plan frame x) n' d = some r) n ((0 : Int), m0) h ?_ (fun d => loopF_zero _ d r) ?_
          · kernel_rfl
          · rintro n8 ⟨x_2, m0_2⟩ h
            replace h : (bif (decide (x_2 < ((plan.length : Nat) : Int))) then (bif inb x_2 plan.length then (bif ((plan.getD x_2.toNat ((0 : Int), (0 : Int))).1 == x) then (bif inb x_2 periods.length then (bif ((periods.getD x_2.toNat (0 : Int)) != 0) then (bif ((frame.tmod (periods.getD x_2.toNat (0 : Int))) == (plan.getD x_2.toNat ((0 : Int), (0 : Int))).2) then (bif (decide (m0_2.length + [x_2].length ≤ 17179869184)) then ((loopF (F37_l8 n (loopF (F37_l7 n periods plan lanes frame) n7) periods plan frame x) n8) ((IntKind.wrap .i64 (x_2 + (1 : Int))), (m0_2 ++ [x_2]))) else none) else ((loopF (F37_l8 n (loopF (F37_l7 n periods plan lanes frame) n7) periods plan frame x) n8) ((IntKind.wrap .i64 (x_2 + (1 : Int))), m0_2))) else none) else none) else ((loopF (F37_l8 n (loopF (F37_l7 n periods plan lanes frame) n7) periods plan frame x) n8) ((IntKind.wrap .i64 (x_2 + (1 : Int))), m0_2))) else none) else ((loopF (F37_l7 n periods plan lanes frame) n7) ((IntKind.wrap .i64 (x + (1 : Int))), m0_2))) = some r := h
            refine TS.seq ?_
            have hq : (True) ∧ (True) := ⟨trivial, trivial⟩
            refine TS.reg [] ?_ ?_
            · apply prop_of ?_ hq
              kernel_rfl
            refine XS.then ?_
            refine TS.seq ?_
            rcases bif_some h with ⟨c8, h⟩ | ⟨c9, h⟩
            · refine TS.cond (decide (x_2 < ((plan.length : Nat) : Int))) ?_ (fun e => ?_) (fun e => by rw [c8] at e; cases e)
              · kernel_rfl
              refine TS.skip ?_
              refine XS.then ?_
              refine TS.seq ?_
              refine TS.block ?_
              refine TS.seq ?_
              obtain ⟨t10, h⟩ := test_some h
              have hq : (True) ∧ ((inR x_2 plan.length) ∧ ((True) ∧ ((True) ∧ ((True) ∧ ((True) ∧ (True)))))) := ⟨trivial, ⟨inb_ok t10, ⟨trivial, ⟨trivial, ⟨trivial, ⟨trivial, trivial⟩⟩⟩⟩⟩⟩
              refine TS.reg [] ?_ ?_
              · apply prop_of ?_ hq
                kernel_rfl
              refine XS.then ?_
              refine TS.seq ?_
              rcases bif_some h with ⟨c11, h⟩ | ⟨c12, h⟩
              · obtain ⟨t13, h⟩ := test_some h
                obtain ⟨t14, h⟩ := test_some h
                have hq : ((True) ∧ ((True) ∧ ((True) ∧ ((True) ∧ (((True) ∧ ((plan.getD x_2.toNat ((0 : Int), (0 : Int))).1 == x) = true) ∧ ((True) ∧ ((True) ∧ ((True) ∧ ((inR x_2 periods.length) ∧ ((True) ∧ (((periods.getD x_2.toNat (0 : Int)) ≠ 0) ∧ ((True) ∧ ((True) ∧ ((True) ∧ ((True) ∧ (True)))))))))))))))) ∧ (True) := ⟨⟨trivial, ⟨trivial, ⟨trivial, ⟨trivial, ⟨⟨trivial, c11⟩, ⟨trivial, ⟨trivial, ⟨trivial, ⟨inb_ok t13, ⟨trivial, ⟨bne_ok t14, ⟨trivial, ⟨trivial, ⟨trivial, ⟨trivial, trivial⟩⟩⟩⟩⟩⟩⟩⟩⟩⟩⟩⟩⟩⟩⟩, trivial⟩
                refine TS.draw 15 [] [.none, .none, .none, .none, .dec true] (by kernel_rfl) ?_ ?_
                · apply prop_of ?_ hq
                  kernel_rfl
                refine XS.then ?_
                rcases bif_some h with ⟨c15, h⟩ | ⟨c16, h⟩
                · refine TS.cond ((frame.tmod (periods.getD x_2.toNat (0 : Int))) == (plan.getD x_2.toNat ((0 : Int), (0 : Int))).2) ?_ (fun e => ?_) (fun e => by rw [c15] at e; cases e)
                  · kernel_rfl
                  obtain ⟨t17, h⟩ := test_some h
                  have hq : (True) ∧ ((True) ∧ (((0 < 1 ∧ True) ∧ (True)) ∧ ((m0_2.length + [x_2].length ≤ 17179869184) ∧ ((True) ∧ (True))))) := ⟨trivial, ⟨trivial, ⟨⟨⟨by decide, trivial⟩, trivial⟩, ⟨of_decide_eq_true t17, ⟨trivial, trivial⟩⟩⟩⟩⟩
                  refine TS.reg [] ?_ ?_
                  · apply prop_of ?_ hq
                    kernel_rfl
                  refine XS.blockEnd ?_
                  refine XS.then ?_
                  have hq : (True) ∧ ((True) ∧ (True)) := ⟨trivial, ⟨trivial, trivial⟩⟩
                  refine TS.reg [] ?_ ?_
                  · apply prop_of ?_ hq
                    kernel_rfl
                  refine XS.reAny [3] (mkMask 57 [0, 1, 3, 11, 12, 24, 25, 28, 29, 30]) ((IntKind.wrap .i64 (x_2 + (1 : Int))), (m0_2 ++ [x_2])) h ?_
                  kernel_rfl
                · refine TS.cond ((frame.tmod (periods.getD x_2.toNat (0 : Int))) == (plan.getD x_2.toNat ((0 : Int), (0 : Int))).2) ?_ (fun e => by rw [c16] at e; cases e) (fun e => ?_)
                  · kernel_rfl
                  refine TS.skip ?_
                  refine XS.blockEnd ?_
                  refine XS.then ?_
                  have hq : (True) ∧ ((True) ∧ (True)) := ⟨trivial, ⟨trivial, trivial⟩⟩
                  refine TS.reg [] ?_ ?_
                  · apply prop_of ?_ hq
                    kernel_rfl
                  refine XS.reAny [0] (mkMask 57 [0, 1, 3, 11, 12, 24, 25, 28, 29, 30]) ((IntKind.wrap .i64 (x_2 + (1 : Int))), m0_2) h ?_
                  kernel_rfl
              · have hq : ((True) ∧ ((True) ∧ ((True) ∧ ((True) ∧ (((True) ∧ ((plan.getD x_2.toNat ((0 : Int), (0 : Int))).1 == x) = false) ∧ ((True) ∧ (True))))))) ∧ (True) := ⟨⟨trivial, ⟨trivial, ⟨trivial, ⟨trivial, ⟨⟨trivial, c12⟩, ⟨trivial, trivial⟩⟩⟩⟩⟩⟩, trivial⟩
                refine TS.draw 15 [] [.none, .none, .none, .none, .dec false] (by kernel_rfl) ?_ ?_
                · apply prop_of ?_ hq
                  kernel_rfl
                refine XS.then ?_
                refine TS.no ?_ ?_
                · kernel_rfl
                refine TS.skip ?_
                refine XS.blockEnd ?_
                refine XS.then ?_
                have hq : (True) ∧ ((True) ∧ (True)) := ⟨trivial, ⟨trivial, trivial⟩⟩
                refine TS.reg [] ?_ ?_
                · apply prop_of ?_ hq
                  kernel_rfl
                refine XS.reAny [0] (mkMask 57 [0, 1, 3, 11, 12, 24, 25, 28, 29, 30]) ((IntKind.wrap .i64 (x_2 + (1 : Int))), m0_2) h ?_
                kernel_rfl
            · refine TS.cond (decide (x_2 < ((plan.length : Nat) : Int))) ?_ (fun e => by rw [c9] at e; cases e) (fun e => ?_)
              · kernel_rfl
              refine TS.exit ?_
              refine XS.passE ?_
              refine XS.passE ?_
              refine XS.out ?_
              refine XS.blockEnd ?_
              refine XS.then ?_
              have hq : (True) ∧ ((True) ∧ (True)) := ⟨trivial, ⟨trivial, trivial⟩⟩
              refine TS.reg [] ?_ ?_
              · apply prop_of ?_ hq
                kernel_rfl
              refine XS.reAny [0] (mkMask 57 [0, 1, 3, 11, 24, 25]) ((IntKind.wrap .i64 (x + (1 : Int))), m0_2) h ?_
              kernel_rfl
        · refine TS.cond (decide (x < lanes)) ?_ (fun e => by rw [c7] at e; cases e) (fun e => ?_)
          · kernel_rfl
          refine TS.exit ?_
          refine XS.passE ?_
          refine XS.passE ?_
          refine XS.out ?_
          refine XS.then ?_
          refine TS.seq ?_
          have hq : (True) ∧ ((True) ∧ ((True) ∧ (True))) := ⟨trivial, ⟨trivial, ⟨trivial, trivial⟩⟩⟩
          refine TS.reg [] ?_ ?_
          · apply prop_of ?_ hq
            kernel_rfl
          refine XS.then ?_
          refine TS.ret ?_
          obtain rfl : ((0 : Int), m0) = r := Option.some.inj h
          exact XS.fin [0] ((True) ∧ ((True) ∧ (True))) (by kernel_rfl) ⟨trivial, ⟨trivial, trivial⟩⟩

/-! plugtree/plugref.Between -/
def F16 (n : Nat) (vn : Int) (low : Int) (high : Int) : Option Bool := (bif (decide (low ≤ vn)) then (some (decide (vn ≤ high))) else (some false))
theorem F16_ok (n : Nat) (vn : Int) (low : Int) (high : Int) (r : Bool) (h : F16 n vn low high = some r) : PureC Try.prog 16 [(.int .i64 vn), (.int .i64 low), (.int .i64 high)] (.bool r) [] := by
  refine PureC.mkS Try.func16 rfl rfl ?_
  intro w0 fz0 hfz
  replace h : (bif (decide (low ≤ vn)) then (some (decide (vn ≤ high))) else (some false)) = some r := h
  refine TS.seq ?_
  have hq : (True) ∧ (True) := ⟨trivial, trivial⟩
  refine TS.reg [] ?_ ?_
  · apply prop_of ?_ hq
    kernel_rfl
  refine XS.then ?_
  refine TS.seq ?_
  rcases bif_some h with ⟨c1, h⟩ | ⟨c2, h⟩
  · have hq : (True) ∧ ((True) ∧ ((True) ∧ (((True) ∧ (decide (low ≤ vn)) = true) ∧ ((True) ∧ ((True) ∧ ((True) ∧ ((True) ∧ ((True) ∧ (True))))))))) := ⟨trivial, ⟨trivial, ⟨trivial, ⟨⟨trivial, c1⟩, ⟨trivial, ⟨trivial, ⟨trivial, ⟨trivial, ⟨trivial, trivial⟩⟩⟩⟩⟩⟩⟩⟩⟩
    refine TS.reg [.none, .none, .none, .dec true] ?_ ?_
    · apply prop_of ?_ hq
      kernel_rfl
    refine XS.then ?_
    refine TS.ret ?_
    obtain rfl : (decide (vn ≤ high)) = r := Option.some.inj h
    exact XS.fin [] ((True) ∧ (True)) (by kernel_rfl) ⟨trivial, trivial⟩
  · have hq : (True) ∧ ((True) ∧ ((True) ∧ (((True) ∧ (decide (low ≤ vn)) = false) ∧ ((True) ∧ ((True) ∧ (True)))))) := ⟨trivial, ⟨trivial, ⟨trivial, ⟨⟨trivial, c2⟩, ⟨trivial, ⟨trivial, trivial⟩⟩⟩⟩⟩⟩
    refine TS.reg [.none, .none, .none, .dec false] ?_ ?_
    · apply prop_of ?_ hq
      kernel_rfl
    refine XS.then ?_
    refine TS.ret ?_
    obtain rfl : false = r := Option.some.inj h
    exact XS.fin [] ((True) ∧ (True)) (by kernel_rfl) ⟨trivial, trivial⟩

/-! plugtree/plugref.Tasks -/
def F90_l2 (n : Nat) (periods : List Int) (k90_2 : Int → Option Int) : Int → Option Int
  | x => (bif (decide (x < ((periods.length : Nat) : Int))) then (bif inb x periods.length then (bif (decide ((periods.getD x.toNat (0 : Int)) < (1 : Int))) then (some (1 : Int)) else (bif (decide ((periods.getD x.toNat (0 : Int)) > (32 : Int))) then (some (1 : Int)) else (bif ((periods.getD x.toNat (0 : Int)) != 0) then (bif (((32 : Int).tmod (periods.getD x.toNat (0 : Int))) != (0 : Int)) then (some (1 : Int)) else (k90_2 (IntKind.wrap .i64 (x + (1 : Int))))) else none))) else none) else (some (0 : Int)))
def F90 (n : Nat) (periods : List Int) (lanes : Int) : Option Int := ((F16 n lanes (1 : Int) (8 : Int)).bind fun y_2 => (bif (!y_2) then (some (1 : Int)) else (bif (decide (((periods.length : Nat) : Int) > (64 : Int))) then (some (2 : Int)) else (loopF (F90_l2 n periods) n (0 : Int)))))
theorem F90_ok (n : Nat) (periods : List Int) (lanes : Int) (r : Int) (h : F90 n periods lanes = some r) : PureC Try.prog 90 [(.sl (.int .i64) periods), (.int .i64 lanes)] (.int .i64 r) [] := by
  refine PureC.mkS Try.func90 rfl rfl ?_
  intro w0 fz0 hfz
  replace h : ((F16 n lanes (1 : Int) (8 : Int)).bind fun y_2 => (bif (!y_2) then (some (1 : Int)) else (bif (decide (((periods.length : Nat) : Int) > (64 : Int))) then (some (2 : Int)) else (loopF (F90_l2 n periods) n (0 : Int))))) = some r := h
  refine TS.seq ?_
  have hq : (True) ∧ (True) := ⟨trivial, trivial⟩
  refine TS.reg [] ?_ ?_
  · apply prop_of ?_ hq
    kernel_rfl
  refine XS.then ?_
  refine TS.seq ?_
  refine TS.seq ?_
  obtain ⟨y_2, hx1, h⟩ := bind_some' h
  have hq : (True) ∧ ((PureC Try.prog 16 [(.int .i64 lanes), (.int .i64 (1 : Int)), (.int .i64 (8 : Int))] (.bool y_2) []) ∧ ((True) ∧ (True))) := ⟨trivial, ⟨F16_ok n lanes (1 : Int) (8 : Int) y_2 hx1, ⟨trivial, trivial⟩⟩⟩
  refine TS.reg [.none, (.call (.bool y_2) [])] ?_ ?_
  · apply prop_of ?_ hq
    kernel_rfl
  refine XS.then ?_
  rcases bif_some h with ⟨c2, h⟩ | ⟨c3, h⟩
  · refine TS.cond (!y_2) ?_ (fun e => ?_) (fun e => by rw [c2] at e; cases e)
    · kernel_rfl
    refine TS.seq ?_
    have hq : (True) ∧ (True) := ⟨trivial, trivial⟩
    refine TS.reg [] ?_ ?_
    · apply prop_of ?_ hq
      kernel_rfl
    refine XS.then ?_
    refine TS.ret ?_
    refine XS.passR ?_
    obtain rfl : (1 : Int) = r := Option.some.inj h
    exact XS.fin [] ((True) ∧ (True)) (by kernel_rfl) ⟨trivial, trivial⟩
  · refine TS.cond (!y_2) ?_ (fun e => by rw [c3] at e; cases e) (fun e => ?_)
    · kernel_rfl
    refine TS.skip ?_
    refine XS.then ?_
    refine TS.seq ?_
    refine TS.seq ?_
    have hq : (True) ∧ ((True) ∧ ((True) ∧ (True))) := ⟨trivial, ⟨trivial, ⟨trivial, trivial⟩⟩⟩
    refine TS.reg [] ?_ ?_
    · apply prop_of ?_ hq
      kernel_rfl
    refine XS.then ?_
    rcases bif_some h with ⟨c4, h⟩ | ⟨c5, h⟩
    · refine TS.cond (decide (((periods.length : Nat) : Int) > (64 : Int))) ?_ (fun e => ?_) (fun e => by rw [c4] at e; cases e)
      · kernel_rfl
      refine TS.seq ?_
      have hq : (True) ∧ (True) := ⟨trivial, trivial⟩
      refine TS.reg [] ?_ ?_
      · apply prop_of ?_ hq
        kernel_rfl
      refine XS.then ?_
      refine TS.ret ?_
      refine XS.passR ?_
      obtain rfl : (2 : Int) = r := Option.some.inj h
      exact XS.fin [] ((True) ∧ (True)) (by kernel_rfl) ⟨trivial, trivial⟩
    · refine TS.cond (decide (((periods.length : Nat) : Int) > (64 : Int))) ?_ (fun e => by rw [c5] at e; cases e) (fun e => ?_)
      · kernel_rfl
      refine TS.skip ?_
      refine XS.then ?_
      refine TS.seq ?_
      refine TS.seq ?_
      have hq : (True) ∧ ((True) ∧ ((True) ∧ (True))) := ⟨trivial, ⟨trivial, ⟨trivial, trivial⟩⟩⟩
      refine TS.reg [] ?_ ?_
      · apply prop_of ?_ hq
        kernel_rfl
      refine XS.then ?_
      refine TS.block ?_
      refine TS.reLoop [] (mkMask 31 [13, 14, 15]) (D := Int) (fun d => match d with | x => (mkTs 31 [(13, (.sl (.int .i64) periods)), (14, (.int .i64 ((periods.length : Nat) : Int))), (15, (.int .i64 x))], [])) (fun n' d => loopF (F90_l2 n periods) n' d = some r) n (0 : Int) h ?_ (fun d => loopF_zero _ d r) ?_
      · kernel_rfl
      · rintro n2 x h
        replace h : (bif (decide (x < ((periods.length : Nat) : Int))) then (bif inb x periods.length then (bif (decide ((periods.getD x.toNat (0 : Int)) < (1 : Int))) then (some (1 : Int)) else (bif (decide ((periods.getD x.toNat (0 : Int)) > (32 : Int))) then (some (1 : Int)) else (bif ((periods.getD x.toNat (0 : Int)) != 0) then (bif (((32 : Int).tmod (periods.getD x.toNat (0 : Int))) != (0 : Int)) then (some (1 : Int)) else ((loopF (F90_l2 n periods) n2) (IntKind.wrap .i64 (x + (1 : Int))))) else none))) else none) else (some (0 : Int))) = some r := h
        refine TS.seq ?_
        have hq : (True) ∧ (True) := ⟨trivial, trivial⟩
        refine TS.reg [] ?_ ?_
        · apply prop_of ?_ hq
          kernel_rfl
        refine XS.then ?_
        refine TS.seq ?_
        rcases bif_some h with ⟨c6, h⟩ | ⟨c7, h⟩
        · refine TS.cond (decide (x < ((periods.length : Nat) : Int))) ?_ (fun e => ?_) (fun e => by rw [c6] at e; cases e)
          · kernel_rfl
          refine TS.skip ?_
          refine XS.then ?_
          refine TS.seq ?_
          refine TS.block ?_
          refine TS.seq ?_
          obtain ⟨t8, h⟩ := test_some h
          have hq : (inR x periods.length) ∧ ((True) ∧ ((True) ∧ (True))) := ⟨inb_ok t8, ⟨trivial, ⟨trivial, trivial⟩⟩⟩
          refine TS.reg [] ?_ ?_
          · apply prop_of ?_ hq
            kernel_rfl
          refine XS.then ?_
          refine TS.seq ?_
          rcases bif_some h with ⟨c9, h⟩ | ⟨c10, h⟩
          · have hq : (True) ∧ ((True) ∧ (((True) ∧ (decide ((periods.getD x.toNat (0 : Int)) < (1 : Int))) = true) ∧ ((True) ∧ ((True) ∧ ((True) ∧ (True)))))) := ⟨trivial, ⟨trivial, ⟨⟨trivial, c9⟩, ⟨trivial, ⟨trivial, ⟨trivial, trivial⟩⟩⟩⟩⟩⟩
            refine TS.reg [.none, .none, .dec true] ?_ ?_
            · apply prop_of ?_ hq
              kernel_rfl
            refine XS.then ?_
            refine TS.yes ?_ ?_
            · kernel_rfl
            refine TS.seq ?_
            have hq : (True) ∧ (True) := ⟨trivial, trivial⟩
            refine TS.reg [] ?_ ?_
            · apply prop_of ?_ hq
              kernel_rfl
            refine XS.then ?_
            refine TS.ret ?_
            refine XS.blockRet ?_
            refine XS.passR ?_
            refine XS.passR ?_
            refine XS.blockRet ?_
            refine XS.passR ?_
            obtain rfl : (1 : Int) = r := Option.some.inj h
            exact XS.fin [] ((True) ∧ (True)) (by kernel_rfl) ⟨trivial, trivial⟩
          · rcases bif_some h with ⟨c11, h⟩ | ⟨c12, h⟩
            · have hq : (True) ∧ ((True) ∧ (((True) ∧ (decide ((periods.getD x.toNat (0 : Int)) < (1 : Int))) = false) ∧ ((True) ∧ ((True) ∧ ((True) ∧ (((True) ∧ (decide ((periods.getD x.toNat (0 : Int)) > (32 : Int))) = true) ∧ ((True) ∧ (True)))))))) := ⟨trivial, ⟨trivial, ⟨⟨trivial, c10⟩, ⟨trivial, ⟨trivial, ⟨trivial, ⟨⟨trivial, c11⟩, ⟨trivial, trivial⟩⟩⟩⟩⟩⟩⟩⟩
              refine TS.reg [.none, .none, .dec false, .none, .none, .none, .dec true] ?_ ?_
              · apply prop_of ?_ hq
                kernel_rfl
              refine XS.then ?_
              refine TS.yes ?_ ?_
              · kernel_rfl
              refine TS.seq ?_
              have hq : (True) ∧ (True) := ⟨trivial, trivial⟩
              refine TS.reg [] ?_ ?_
              · apply prop_of ?_ hq
                kernel_rfl
              refine XS.then ?_
              refine TS.ret ?_
              refine XS.blockRet ?_
              refine XS.passR ?_
              refine XS.passR ?_
              refine XS.blockRet ?_
              refine XS.passR ?_
              obtain rfl : (1 : Int) = r := Option.some.inj h
              exact XS.fin [] ((True) ∧ (True)) (by kernel_rfl) ⟨trivial, trivial⟩
            · obtain ⟨t13, h⟩ := test_some h
              have hq : (True) ∧ ((True) ∧ (((True) ∧ (decide ((periods.getD x.toNat (0 : Int)) < (1 : Int))) = false) ∧ ((True) ∧ ((True) ∧ ((True) ∧ (((True) ∧ (decide ((periods.getD x.toNat (0 : Int)) > (32 : Int))) = false) ∧ ((True) ∧ (((periods.getD x.toNat (0 : Int)) ≠ 0) ∧ ((True) ∧ ((True) ∧ (True))))))))))) := ⟨trivial, ⟨trivial, ⟨⟨trivial, c10⟩, ⟨trivial, ⟨trivial, ⟨trivial, ⟨⟨trivial, c12⟩, ⟨trivial, ⟨bne_ok t13, ⟨trivial, ⟨trivial, trivial⟩⟩⟩⟩⟩⟩⟩⟩⟩⟩⟩
              refine TS.reg [.none, .none, .dec false, .none, .none, .none, .dec false] ?_ ?_
              · apply prop_of ?_ hq
                kernel_rfl
              refine XS.then ?_
              rcases bif_some h with ⟨c14, h⟩ | ⟨c15, h⟩
              · refine TS.cond (((32 : Int).tmod (periods.getD x.toNat (0 : Int))) != (0 : Int)) ?_ (fun e => ?_) (fun e => by rw [c14] at e; cases e)
                · kernel_rfl
                refine TS.seq ?_
                have hq : (True) ∧ (True) := ⟨trivial, trivial⟩
                refine TS.reg [] ?_ ?_
                · apply prop_of ?_ hq
                  kernel_rfl
                refine XS.then ?_
                refine TS.ret ?_
                refine XS.blockRet ?_
                refine XS.passR ?_
                refine XS.passR ?_
                refine XS.blockRet ?_
                refine XS.passR ?_
                obtain rfl : (1 : Int) = r := Option.some.inj h
                exact XS.fin [] ((True) ∧ (True)) (by kernel_rfl) ⟨trivial, trivial⟩
              · refine TS.cond (((32 : Int).tmod (periods.getD x.toNat (0 : Int))) != (0 : Int)) ?_ (fun e => by rw [c15] at e; cases e) (fun e => ?_)
                · kernel_rfl
                refine TS.skip ?_
                refine XS.blockEnd ?_
                refine XS.then ?_
                have hq : (True) ∧ ((True) ∧ (True)) := ⟨trivial, ⟨trivial, trivial⟩⟩
                refine TS.reg [] ?_ ?_
                · apply prop_of ?_ hq
                  kernel_rfl
                refine XS.reAny [] (mkMask 31 [13, 14, 15]) (IntKind.wrap .i64 (x + (1 : Int))) h ?_
                kernel_rfl
        · refine TS.cond (decide (x < ((periods.length : Nat) : Int))) ?_ (fun e => by rw [c7] at e; cases e) (fun e => ?_)
          · kernel_rfl
          refine TS.exit ?_
          refine XS.passE ?_
          refine XS.passE ?_
          refine XS.out ?_
          refine XS.then ?_
          refine TS.seq ?_
          have hq : (True) ∧ (True) := ⟨trivial, trivial⟩
          refine TS.reg [] ?_ ?_
          · apply prop_of ?_ hq
            kernel_rfl
          refine XS.then ?_
          refine TS.ret ?_
          obtain rfl : (0 : Int) = r := Option.some.inj h
          exact XS.fin [] ((True) ∧ (True)) (by kernel_rfl) ⟨trivial, trivial⟩

/-! plugtree/plugref.Clash -/
def F91 (n : Nat) (p : Int) (a_Lane : Int) (a_Phase : Int) (q : Int) (b_Lane : Int) (b_Phase : Int) : Option Bool := (bif (a_Lane == b_Lane) then (bif ((if q < p then q else p) != 0) then (some ((a_Phase.tmod (if q < p then q else p)) == (b_Phase.tmod (if q < p then q else p)))) else none) else (some false))
theorem F91_ok (n : Nat) (p : Int) (a_Lane : Int) (a_Phase : Int) (q : Int) (b_Lane : Int) (b_Phase : Int) (r : Bool) (h : F91 n p a_Lane a_Phase q b_Lane b_Phase = some r) : PureC Try.prog 91 [(.int .i64 p), (.st (.cons (.int .i64 a_Lane) (.int .i64 a_Phase))), (.int .i64 q), (.st (.cons (.int .i64 b_Lane) (.int .i64 b_Phase)))] (.bool r) [] := by
  refine PureC.mkS Try.func91 rfl rfl ?_
  intro w0 fz0 hfz
  replace h : (bif (a_Lane == b_Lane) then (bif ((if q < p then q else p) != 0) then (some ((a_Phase.tmod (if q < p then q else p)) == (b_Phase.tmod (if q < p then q else p)))) else none) else (some false)) = some r := h
  refine TS.seq ?_
  have hq : (True) ∧ ((True) ∧ ((True) ∧ (True))) := ⟨trivial, ⟨trivial, ⟨trivial, trivial⟩⟩⟩
  refine TS.reg [] ?_ ?_
  · apply prop_of ?_ hq
    kernel_rfl
  refine XS.then ?_
  refine TS.seq ?_
  rcases bif_some h with ⟨c1, h⟩ | ⟨c2, h⟩
  · obtain ⟨t3, h⟩ := test_some h
    have hq : ((True) ∧ ((True) ∧ ((True) ∧ ((True) ∧ ((True) ∧ (((True) ∧ (a_Lane == b_Lane) = true) ∧ ((True) ∧ ((True) ∧ ((True) ∧ ((True) ∧ ((True) ∧ (((if q < p then q else p) ≠ 0) ∧ ((True) ∧ ((True) ∧ ((True) ∧ ((True) ∧ ((True) ∧ (((if q < p then q else p) ≠ 0) ∧ ((True) ∧ ((True) ∧ (True))))))))))))))))))))) ∧ ((True) ∧ (True)) := ⟨⟨trivial, ⟨trivial, ⟨trivial, ⟨trivial, ⟨trivial, ⟨⟨trivial, c1⟩, ⟨trivial, ⟨trivial, ⟨trivial, ⟨trivial, ⟨trivial, ⟨bne_ok t3, ⟨trivial, ⟨trivial, ⟨trivial, ⟨trivial, ⟨trivial, ⟨bne_ok t3, ⟨trivial, ⟨trivial, trivial⟩⟩⟩⟩⟩⟩⟩⟩⟩⟩⟩⟩⟩⟩⟩⟩⟩⟩⟩⟩, ⟨trivial, trivial⟩⟩
    refine TS.draw 20 [] [.none, .none, .none, .none, .none, .dec true] (by kernel_rfl) ?_ ?_
    · apply prop_of ?_ hq
      kernel_rfl
    refine XS.then ?_
    refine TS.ret ?_
    obtain rfl : ((a_Phase.tmod (if q < p then q else p)) == (b_Phase.tmod (if q < p then q else p))) = r := Option.some.inj h
    exact XS.fin [] ((True) ∧ (True)) (by kernel_rfl) ⟨trivial, trivial⟩
  · have hq : ((True) ∧ ((True) ∧ ((True) ∧ ((True) ∧ ((True) ∧ (((True) ∧ (a_Lane == b_Lane) = false) ∧ ((True) ∧ (True)))))))) ∧ ((True) ∧ (True)) := ⟨⟨trivial, ⟨trivial, ⟨trivial, ⟨trivial, ⟨trivial, ⟨⟨trivial, c2⟩, ⟨trivial, trivial⟩⟩⟩⟩⟩⟩⟩, ⟨trivial, trivial⟩⟩
    refine TS.draw 20 [] [.none, .none, .none, .none, .none, .dec false] (by kernel_rfl) ?_ ?_
    · apply prop_of ?_ hq
      kernel_rfl
    refine XS.then ?_
    refine TS.ret ?_
    obtain rfl : false = r := Option.some.inj h
    exact XS.fin [] ((True) ∧ (True)) (by kernel_rfl) ⟨trivial, trivial⟩

/-! plugtree/plugref.PlanRight -/
def F40_l20 (n : Nat) (k40_19 : Int → Option Int) (periods : List Int) (plan : List (Int × Int)) (x_2 : Int) (k40_20 : Int → Option Int) : Int → Option Int
  | x_3 => (bif (decide (x_3 < x_2)) then (bif inb x_2 periods.length then (bif inb x_2 plan.length then (bif inb x_3 periods.length then (bif inb x_3 plan.length then ((F91 n (periods.getD x_2.toNat (0 : Int)) ((plan.getD x_2.toNat ((0 : Int), (0 : Int))).1) ((plan.getD x_2.toNat ((0 : Int), (0 : Int))).2) (periods.getD x_3.toNat (0 : Int)) ((plan.getD x_3.toNat ((0 : Int), (0 : Int))).1) ((plan.getD x_3.toNat ((0 : Int), (0 : Int))).2)).bind fun y_5 => (bif y_5 then (some (13 : Int)) else (k40_20 (IntKind.wrap .i64 (x_3 + (1 : Int)))))) else none) else none) else none) else none) else (k40_19 (IntKind.wrap .i64 (x_2 + (1 : Int)))))
def F40_l19 (n : Nat) (periods : List Int) (plan : List (Int × Int)) (k40_19 : Int → Option Int) : Int → Option Int
  | x_2 => (bif (decide (x_2 < ((plan.length : Nat) : Int))) then (loopF (F40_l20 n k40_19 periods plan x_2) n (0 : Int)) else (some (0 : Int)))
def F40_l16 (n : Nat) (periods : List Int) (plan : List (Int × Int)) (lanes : Int) (k40_16 : Int → Option Int) : Int → Option Int
  | x => (bif (decide (x < ((plan.length : Nat) : Int))) then (bif inb x plan.length then ((F16 n ((plan.getD x.toNat ((0 : Int), (0 : Int))).1) (0 : Int) (IntKind.wrap .i64 (lanes - (1 : Int)))).bind fun y_3 => (bif (!y_3) then (some (1 : Int)) else (bif inb x periods.length then ((F16 n ((plan.getD x.toNat ((0 : Int), (0 : Int))).2) (0 : Int) (IntKind.wrap .i64 ((periods.getD x.toNat (0 : Int)) - (1 : Int)))).bind fun y_4 => (bif (!y_4) then (some (1 : Int)) else (k40_16 (IntKind.wrap .i64 (x + (1 : Int)))))) else none))) else none) else (loopF (F40_l19 n periods plan) n (0 : Int)))
def F40 (n : Nat) (periods : List Int) (plan : List (Int × Int)) (lanes : Int) : Option Int := ((F90 n periods lanes).bind fun y_2 => (bif (y_2 != (0 : Int)) then (some y_2) else (bif (((plan.length : Nat) : Int) != ((periods.length : Nat) : Int)) then (some (4 : Int)) else (loopF (F40_l16 n periods plan lanes) n (0 : Int)))))
theorem F40_ok (n : Nat) (periods : List Int) (plan : List (Int × Int)) (lanes : Int) (r : Int) (h : F40 n periods plan lanes = some r) : PureC Try.prog 40 [(.sl (.int .i64) periods), (.sl (.st (.pair (.int .i64) (.int .i64))) plan), (.int .i64 lanes)] (.int .i64 r) [] := by
  refine PureC.mkS Try.func40 rfl rfl ?_
  intro w0 fz0 hfz
  replace h : ((F90 n periods lanes).bind fun y_2 => (bif (y_2 != (0 : Int)) then (some y_2) else (bif (((plan.length : Nat) : Int) != ((periods.length : Nat) : Int)) then (some (4 : Int)) else (loopF (F40_l16 n periods plan lanes) n (0 : Int))))) = some r := h
  refine TS.seq ?_
  have hq : (True) ∧ (True) := ⟨trivial, trivial⟩
  refine TS.reg [] ?_ ?_
  · apply prop_of ?_ hq
    kernel_rfl
  refine XS.then ?_
  refine TS.seq ?_
  refine TS.seq ?_
  obtain ⟨y_2, hx1, h⟩ := bind_some' h
  have hq : (True) ∧ ((True) ∧ ((PureC Try.prog 90 [(.sl (.int .i64) periods), (.int .i64 lanes)] (.int .i64 y_2) []) ∧ ((True) ∧ (True)))) := ⟨trivial, ⟨trivial, ⟨F90_ok n periods lanes y_2 hx1, ⟨trivial, trivial⟩⟩⟩⟩
  refine TS.reg [.none, .none, (.call (.int .i64 y_2) [])] ?_ ?_
  · apply prop_of ?_ hq
    kernel_rfl
  refine XS.then ?_
  refine TS.seq ?_
  have hq : (True) ∧ ((True) ∧ (True)) := ⟨trivial, ⟨trivial, trivial⟩⟩
  refine TS.reg [] ?_ ?_
  · apply prop_of ?_ hq
    kernel_rfl
  refine XS.then ?_
  rcases bif_some h with ⟨c2, h⟩ | ⟨c3, h⟩
  · refine TS.cond (y_2 != (0 : Int)) ?_ (fun e => ?_) (fun e => by rw [c2] at e; cases e)
    · kernel_rfl
    refine TS.seq ?_
    have hq : (True) ∧ ((True) ∧ (True)) := ⟨trivial, ⟨trivial, trivial⟩⟩
    refine TS.reg [] ?_ ?_
    · apply prop_of ?_ hq
      kernel_rfl
    refine XS.then ?_
    refine TS.ret ?_
    refine XS.passR ?_
    obtain rfl : y_2 = r := Option.some.inj h
    exact XS.fin [] ((True) ∧ (True)) (by kernel_rfl) ⟨trivial, trivial⟩
  · refine TS.cond (y_2 != (0 : Int)) ?_ (fun e => by rw [c3] at e; cases e) (fun e => ?_)
    · kernel_rfl
    refine TS.skip ?_
    refine XS.then ?_
    refine TS.seq ?_
    refine TS.seq ?_
    have hq : (True) ∧ ((True) ∧ ((True) ∧ ((True) ∧ ((True) ∧ (True))))) := ⟨trivial, ⟨trivial, ⟨trivial, ⟨trivial, ⟨trivial, trivial⟩⟩⟩⟩⟩
    refine TS.reg [] ?_ ?_
    · apply prop_of ?_ hq
      kernel_rfl
    refine XS.then ?_
    rcases bif_some h with ⟨c4, h⟩ | ⟨c5, h⟩
    · refine TS.cond (((plan.length : Nat) : Int) != ((periods.length : Nat) : Int)) ?_ (fun e => ?_) (fun e => by rw [c4] at e; cases e)
      · kernel_rfl
      refine TS.seq ?_
      have hq : (True) ∧ (True) := ⟨trivial, trivial⟩
      refine TS.reg [] ?_ ?_
      · apply prop_of ?_ hq
        kernel_rfl
      refine XS.then ?_
      refine TS.ret ?_
      refine XS.passR ?_
      obtain rfl : (4 : Int) = r := Option.some.inj h
      exact XS.fin [] ((True) ∧ (True)) (by kernel_rfl) ⟨trivial, trivial⟩
    · refine TS.cond (((plan.length : Nat) : Int) != ((periods.length : Nat) : Int)) ?_ (fun e => by rw [c5] at e; cases e) (fun e => ?_)
      · kernel_rfl
      refine TS.skip ?_
      refine XS.then ?_
      refine TS.seq ?_
      refine TS.seq ?_
      have hq : (True) ∧ ((True) ∧ ((True) ∧ (True))) := ⟨trivial, ⟨trivial, ⟨trivial, trivial⟩⟩⟩
      refine TS.reg [] ?_ ?_
      · apply prop_of ?_ hq
        kernel_rfl
      refine XS.then ?_
      refine TS.block ?_
      refine TS.reLoop [] (mkMask 76 [0, 1, 2, 23, 24, 25]) (D := Int) (fun d => match d with | x => (mkTs 76 [(0, (.sl (.int .i64) periods)), (1, (.sl (.st (.pair (.int .i64) (.int .i64))) plan)), (2, (.int .i64 lanes)), (23, (.sl (.st (.pair (.int .i64) (.int .i64))) plan)), (24, (.int .i64 ((plan.length : Nat) : Int))), (25, (.int .i64 x))], [])) (fun n' d => loopF (F40_l16 n periods plan lanes) n' d = some r) n (0 : Int) h ?_ (fun d => loopF_zero _ d r) ?_
      · kernel_rfl
      · rintro n16 x h
        replace h : (bif (decide (x < ((plan.length : Nat) : Int))) then (bif inb x plan.length then ((F16 n ((plan.getD x.toNat ((0 : Int), (0 : Int))).1) (0 : Int) (IntKind.wrap .i64 (lanes - (1 : Int)))).bind fun y_3 => (bif (!y_3) then (some (1 : Int)) else (bif inb x periods.length then ((F16 n ((plan.getD x.toNat ((0 : Int), (0 : Int))).2) (0 : Int) (IntKind.wrap .i64 ((periods.getD x.toNat (0 : Int)) - (1 : Int)))).bind fun y_4 => (bif (!y_4) then (some (1 : Int)) else ((loopF (F40_l16 n periods plan lanes) n16) (IntKind.wrap .i64 (x + (1 : Int)))))) else none))) else none) else (loopF (F40_l19 n periods plan) n (0 : Int))) = some r := h
        refine TS.seq ?_
        have hq : (True) ∧ (True) := ⟨trivial, trivial⟩
        refine TS.reg [] ?_ ?_
        · apply prop_of ?_ hq
          kernel_rfl
        refine XS.then ?_
        refine TS.seq ?_
        rcases bif_some h with ⟨c6, h⟩ | ⟨c7, h⟩
        · refine TS.cond (decide (x < ((plan.length : Nat) : Int))) ?_ (fun e => ?_) (fun e => by rw [c6] at e; cases e)
          · kernel_rfl
          refine TS.skip ?_
          refine XS.then ?_
          refine TS.seq ?_
          refine TS.block ?_
          refine TS.seq ?_
          obtain ⟨t8, h⟩ := test_some h
          have hq : (True) ∧ ((inR x plan.length) ∧ ((True) ∧ ((True) ∧ ((True) ∧ ((True) ∧ (True)))))) := ⟨trivial, ⟨inb_ok t8, ⟨trivial, ⟨trivial, ⟨trivial, ⟨trivial, trivial⟩⟩⟩⟩⟩⟩
          refine TS.reg [] ?_ ?_
          · apply prop_of ?_ hq
            kernel_rfl
          refine XS.then ?_
          refine TS.seq ?_
          obtain ⟨y_3, hx9, h⟩ := bind_some' h
          rcases bif_some h with ⟨c10, h⟩ | ⟨c11, h⟩
          · have hq : ((True) ∧ ((True) ∧ ((True) ∧ ((True) ∧ ((PureC Try.prog 16 [(.int .i64 (plan.getD x.toNat ((0 : Int), (0 : Int))).1), (.int .i64 (0 : Int)), (.int .i64 (IntKind.wrap .i64 (lanes - (1 : Int))))] (.bool y_3) []) ∧ ((True) ∧ (((True) ∧ (!y_3) = true) ∧ ((True) ∧ (True))))))))) ∧ (True) := ⟨⟨trivial, ⟨trivial, ⟨trivial, ⟨trivial, ⟨F16_ok n ((plan.getD x.toNat ((0 : Int), (0 : Int))).1) (0 : Int) (IntKind.wrap .i64 (lanes - (1 : Int))) y_3 hx9, ⟨trivial, ⟨⟨trivial, c10⟩, ⟨trivial, trivial⟩⟩⟩⟩⟩⟩⟩⟩, trivial⟩
            refine TS.draw 17 [] [.none, .none, .none, .none, (.call (.bool y_3) []), .none, .dec true] (by kernel_rfl) ?_ ?_
            · apply prop_of ?_ hq
              kernel_rfl
            refine XS.then ?_
            refine TS.yes ?_ ?_
            · kernel_rfl
            refine TS.seq ?_
            have hq : (True) ∧ (True) := ⟨trivial, trivial⟩
            refine TS.reg [] ?_ ?_
            · apply prop_of ?_ hq
              kernel_rfl
            refine XS.then ?_
            refine TS.ret ?_
            refine XS.blockRet ?_
            refine XS.passR ?_
            refine XS.passR ?_
            refine XS.blockRet ?_
            refine XS.passR ?_
            obtain rfl : (1 : Int) = r := Option.some.inj h
            exact XS.fin [] ((True) ∧ (True)) (by kernel_rfl) ⟨trivial, trivial⟩
          · obtain ⟨t12, h⟩ := test_some h
            obtain ⟨y_4, hx13, h⟩ := bind_some' h
            have hq : ((True) ∧ ((True) ∧ ((True) ∧ ((True) ∧ ((PureC Try.prog 16 [(.int .i64 (plan.getD x.toNat ((0 : Int), (0 : Int))).1), (.int .i64 (0 : Int)), (.int .i64 (IntKind.wrap .i64 (lanes - (1 : Int))))] (.bool y_3) []) ∧ ((True) ∧ (((True) ∧ (!y_3) = false) ∧ ((True) ∧ ((True) ∧ ((True) ∧ ((True) ∧ ((inR x periods.length) ∧ ((True) ∧ ((True) ∧ ((PureC Try.prog 16 [(.int .i64 (plan.getD x.toNat ((0 : Int), (0 : Int))).2), (.int .i64 (0 : Int)), (.int .i64 (IntKind.wrap .i64 ((periods.getD x.toNat (0 : Int)) - (1 : Int))))] (.bool y_4) []) ∧ ((True) ∧ ((True) ∧ (True)))))))))))))))))) ∧ (True) := ⟨⟨trivial, ⟨trivial, ⟨trivial, ⟨trivial, ⟨F16_ok n ((plan.getD x.toNat ((0 : Int), (0 : Int))).1) (0 : Int) (IntKind.wrap .i64 (lanes - (1 : Int))) y_3 hx9, ⟨trivial, ⟨⟨trivial, c11⟩, ⟨trivial, ⟨trivial, ⟨trivial, ⟨trivial, ⟨inb_ok t12, ⟨trivial, ⟨trivial, ⟨F16_ok n ((plan.getD x.toNat ((0 : Int), (0 : Int))).2) (0 : Int) (IntKind.wrap .i64 ((periods.getD x.toNat (0 : Int)) - (1 : Int))) y_4 hx13, ⟨trivial, ⟨trivial, trivial⟩⟩⟩⟩⟩⟩⟩⟩⟩⟩⟩⟩⟩⟩⟩⟩⟩, trivial⟩
            refine TS.draw 17 [] [.none, .none, .none, .none, (.call (.bool y_3) []), .none, .dec false, .none, .none, .none, .none, .none, .none, .none, (.call (.bool y_4) [])] (by kernel_rfl) ?_ ?_
            · apply prop_of ?_ hq
              kernel_rfl
            refine XS.then ?_
            rcases bif_some h with ⟨c14, h⟩ | ⟨c15, h⟩
            · refine TS.cond (!y_4) ?_ (fun e => ?_) (fun e => by rw [c14] at e; cases e)
              · kernel_rfl
              refine TS.seq ?_
              have hq : (True) ∧ (True) := ⟨trivial, trivial⟩
              refine TS.reg [] ?_ ?_
              · apply prop_of ?_ hq
                kernel_rfl
              refine XS.then ?_
              refine TS.ret ?_
              refine XS.blockRet ?_
              refine XS.passR ?_
              refine XS.passR ?_
              refine XS.blockRet ?_
              refine XS.passR ?_
              obtain rfl : (1 : Int) = r := Option.some.inj h
              exact XS.fin [] ((True) ∧ (True)) (by kernel_rfl) ⟨trivial, trivial⟩
            · refine TS.cond (!y_4) ?_ (fun e => by rw [c15] at e; cases e) (fun e => ?_)
              · kernel_rfl
              refine TS.skip ?_
              refine XS.blockEnd ?_
              refine XS.then ?_
              have hq : (True) ∧ ((True) ∧ (True)) := ⟨trivial, ⟨trivial, trivial⟩⟩
              refine TS.reg [] ?_ ?_
              · apply prop_of ?_ hq
                kernel_rfl
              refine XS.reAny [] (mkMask 76 [0, 1, 2, 23, 24, 25]) (IntKind.wrap .i64 (x + (1 : Int))) h ?_
              kernel_rfl
        · refine TS.cond (decide (x < ((plan.length : Nat) : Int))) ?_ (fun e => by rw [c7] at e; cases e) (fun e => ?_)
          · kernel_rfl
          refine TS.exit ?_
          refine XS.passE ?_
          refine XS.passE ?_
          refine XS.out ?_
          refine XS.then ?_
          refine TS.seq ?_
          refine TS.seq ?_
          have hq : (True) ∧ ((True) ∧ ((True) ∧ (True))) := ⟨trivial, ⟨trivial, ⟨trivial, trivial⟩⟩⟩
          refine TS.reg [] ?_ ?_
          · apply prop_of ?_ hq
            kernel_rfl
          refine XS.then ?_
          refine TS.block ?_
          refine TS.reLoop [] (mkMask 76 [0, 1, 49, 50]) (D := Int) (fun d => match d with | x_2 => (mkTs 76 [(0, (.sl (.int .i64) periods)), (1, (.sl (.st (.pair (.int .i64) (.int .i64))) plan)), (49, (.int .i64 ((plan.length : Nat) : Int))), (50, (.int .i64 x_2))], [])) (fun n' d => loopF (F40_l19 n periods plan) n' d = some r) n (0 : Int) h ?_ (fun d => loopF_zero _ d r) ?_
          · kernel_rfl
          · rintro n19 x_2 h
            replace h : (bif (decide (x_2 < ((plan.length : Nat) : Int))) then (loopF (F40_l20 n (loopF (F40_l19 n periods plan) n19) periods plan x_2) n (0 : Int)) else (some (0 : Int))) = some r := h
            refine TS.seq ?_
            have hq : (True) ∧ (True) := ⟨trivial, trivial⟩
            refine TS.reg [] ?_ ?_
            · apply prop_of ?_ hq
              kernel_rfl
            refine XS.then ?_
            refine TS.seq ?_
            rcases bif_some h with ⟨c16, h⟩ | ⟨c17, h⟩
            · refine TS.cond (decide (x_2 < ((plan.length : Nat) : Int))) ?_ (fun e => ?_) (fun e => by rw [c16] at e; cases e)
              · kernel_rfl
              refine TS.skip ?_
              refine XS.then ?_
              refine TS.seq ?_
              refine TS.block ?_
              refine TS.seq ?_
              have hq : (True) ∧ ((True) ∧ (True)) := ⟨trivial, ⟨trivial, trivial⟩⟩
              refine TS.reg [] ?_ ?_
              · apply prop_of ?_ hq
                kernel_rfl
              refine XS.then ?_
              refine TS.seq ?_
              have hq : (True) ∧ ((True) ∧ (True)) := ⟨trivial, ⟨trivial, trivial⟩⟩
              refine TS.reg [] ?_ ?_
              · apply prop_of ?_ hq
                kernel_rfl
              refine XS.then ?_
              refine TS.block ?_
              refine TS.reLoop [] (mkMask 76 [0, 1, 10, 49, 50, 53, 54]) (D := Int) (fun d => match d with | x_3 => (mkTs 76 [(0, (.sl (.int .i64) periods)), (1, (.sl (.st (.pair (.int .i64) (.int .i64))) plan)), (10, (.int .i64 x_2)), (49, (.int .i64 ((plan.length : Nat) : Int))), (50, (.int .i64 x_2)), (53, (.int .i64 x_2)), (54, (.int .i64 x_3))], [])) (fun n' d => loopF (F40_l20 n (loopF (F40_l19 n periods plan) n19) periods plan x_2) n' d = some r) n (0 : Int) h ?_ (fun d => loopF_zero _ d r) ?_
              · kernel_rfl
              · rintro n20 x_3 h
                replace h : (bif (decide (x_3 < x_2)) then (bif inb x_2 periods.length then (bif inb x_2 plan.length then (bif inb x_3 periods.length then (bif inb x_3 plan.length then ((F91 n (periods.getD x_2.toNat (0 : Int)) ((plan.getD x_2.toNat ((0 : Int), (0 : Int))).1) ((plan.getD x_2.toNat ((0 : Int), (0 : Int))).2) (periods.getD x_3.toNat (0 : Int)) ((plan.getD x_3.toNat ((0 : Int), (0 : Int))).1) ((plan.getD x_3.toNat ((0 : Int), (0 : Int))).2)).bind fun y_5 => (bif y_5 then (some (13 : Int)) else ((loopF (F40_l20 n (loopF (F40_l19 n periods plan) n19) periods plan x_2) n20) (IntKind.wrap .i64 (x_3 + (1 : Int)))))) else none) else none) else none) else none) else ((loopF (F40_l19 n periods plan) n19) (IntKind.wrap .i64 (x_2 + (1 : Int))))) = some r := h
                refine TS.seq ?_
                have hq : (True) ∧ (True) := ⟨trivial, trivial⟩
                refine TS.reg [] ?_ ?_
                · apply prop_of ?_ hq
                  kernel_rfl
                refine XS.then ?_
                refine TS.seq ?_
                rcases bif_some h with ⟨c18, h⟩ | ⟨c19, h⟩
                · refine TS.cond (decide (x_3 < x_2)) ?_ (fun e => ?_) (fun e => by rw [c18] at e; cases e)
                  · kernel_rfl
                  refine TS.skip ?_
                  refine XS.then ?_
                  refine TS.seq ?_
                  refine TS.block ?_
                  refine TS.seq ?_
                  have hq : (True) ∧ ((True) ∧ (True)) := ⟨trivial, ⟨trivial, trivial⟩⟩
                  refine TS.reg [] ?_ ?_
                  · apply prop_of ?_ hq
                    kernel_rfl
                  refine XS.then ?_
                  refine TS.seq ?_
                  obtain ⟨t20, h⟩ := test_some h
                  obtain ⟨t21, h⟩ := test_some h
                  obtain ⟨t22, h⟩ := test_some h
                  obtain ⟨t23, h⟩ := test_some h
                  obtain ⟨y_5, hx24, h⟩ := bind_some' h
                  have hq : ((True) ∧ ((True) ∧ ((inR x_2 periods.length) ∧ ((True) ∧ ((True) ∧ ((True) ∧ ((inR x_2 plan.length) ∧ ((True) ∧ ((True) ∧ ((True) ∧ ((inR x_3 periods.length) ∧ ((True) ∧ ((True) ∧ ((True) ∧ ((inR x_3 plan.length) ∧ ((True) ∧ ((PureC Try.prog 91 [(.int .i64 (periods.getD x_2.toNat (0 : Int))), (.st (.cons (.int .i64 (plan.getD x_2.toNat ((0 : Int), (0 : Int))).1) (.int .i64 (plan.getD x_2.toNat ((0 : Int), (0 : Int))).2))), (.int .i64 (periods.getD x_3.toNat (0 : Int))), (.st (.cons (.int .i64 (plan.getD x_3.toNat ((0 : Int), (0 : Int))).1) (.int .i64 (plan.getD x_3.toNat ((0 : Int), (0 : Int))).2)))] (.bool y_5) []) ∧ (True)))))))))))))))))) ∧ (True) := ⟨⟨trivial, ⟨trivial, ⟨inb_ok t20, ⟨trivial, ⟨trivial, ⟨trivial, ⟨inb_ok t21, ⟨trivial, ⟨trivial, ⟨trivial, ⟨inb_ok t22, ⟨trivial, ⟨trivial, ⟨trivial, ⟨inb_ok t23, ⟨trivial, ⟨F91_ok n (periods.getD x_2.toNat (0 : Int)) ((plan.getD x_2.toNat ((0 : Int), (0 : Int))).1) ((plan.getD x_2.toNat ((0 : Int), (0 : Int))).2) (periods.getD x_3.toNat (0 : Int)) ((plan.getD x_3.toNat ((0 : Int), (0 : Int))).1) ((plan.getD x_3.toNat ((0 : Int), (0 : Int))).2) y_5 hx24, trivial⟩⟩⟩⟩⟩⟩⟩⟩⟩⟩⟩⟩⟩⟩⟩⟩⟩, trivial⟩
                  refine TS.draw 17 [] [.none, .none, .none, .none, .none, .none, .none, .none, .none, .none, .none, .none, .none, .none, .none, .none, (.call (.bool y_5) [])] (by kernel_rfl) ?_ ?_
                  · apply prop_of ?_ hq
                    kernel_rfl
                  refine XS.then ?_
                  rcases bif_some h with ⟨c25, h⟩ | ⟨c26, h⟩
                  · refine TS.cond y_5 ?_ (fun e => ?_) (fun e => by rw [c25] at e; cases e)
                    · kernel_rfl
                    refine TS.seq ?_
                    have hq : (True) ∧ (True) := ⟨trivial, trivial⟩
                    refine TS.reg [] ?_ ?_
                    · apply prop_of ?_ hq
                      kernel_rfl
                    refine XS.then ?_
                    refine TS.ret ?_
                    refine XS.blockRet ?_
                    refine XS.passR ?_
                    refine XS.passR ?_
                    refine XS.blockRet ?_
                    refine XS.blockRet ?_
                    refine XS.passR ?_
                    refine XS.passR ?_
                    refine XS.blockRet ?_
                    refine XS.passR ?_
                    obtain rfl : (13 : Int) = r := Option.some.inj h
                    exact XS.fin [] ((True) ∧ (True)) (by kernel_rfl) ⟨trivial, trivial⟩
                  · refine TS.cond y_5 ?_ (fun e => by rw [c26] at e; cases e) (fun e => ?_)
                    · kernel_rfl
                    refine TS.skip ?_
                    refine XS.blockEnd ?_
                    refine XS.then ?_
                    have hq : (True) ∧ ((True) ∧ (True)) := ⟨trivial, ⟨trivial, trivial⟩⟩
                    refine TS.reg [] ?_ ?_
                    · apply prop_of ?_ hq
                      kernel_rfl
                    refine XS.reAny [] (mkMask 76 [0, 1, 10, 49, 50, 53, 54]) (IntKind.wrap .i64 (x_3 + (1 : Int))) h ?_
                    kernel_rfl
                · refine TS.cond (decide (x_3 < x_2)) ?_ (fun e => by rw [c19] at e; cases e) (fun e => ?_)
                  · kernel_rfl
                  refine TS.exit ?_
                  refine XS.passE ?_
                  refine XS.passE ?_
                  refine XS.out ?_
                  refine XS.blockEnd ?_
                  refine XS.then ?_
                  have hq : (True) ∧ ((True) ∧ (True)) := ⟨trivial, ⟨trivial, trivial⟩⟩
                  refine TS.reg [] ?_ ?_
                  · apply prop_of ?_ hq
                    kernel_rfl
                  refine XS.reAny [] (mkMask 76 [0, 1, 49, 50]) (IntKind.wrap .i64 (x_2 + (1 : Int))) h ?_
                  kernel_rfl
            · refine TS.cond (decide (x_2 < ((plan.length : Nat) : Int))) ?_ (fun e => by rw [c17] at e; cases e) (fun e => ?_)
              · kernel_rfl
              refine TS.exit ?_
              refine XS.passE ?_
              refine XS.passE ?_
              refine XS.out ?_
              refine XS.then ?_
              refine TS.seq ?_
              have hq : (True) ∧ (True) := ⟨trivial, trivial⟩
              refine TS.reg [] ?_ ?_
              · apply prop_of ?_ hq
                kernel_rfl
              refine XS.then ?_
              refine TS.ret ?_
              obtain rfl : (0 : Int) = r := Option.some.inj h
              exact XS.fin [] ((True) ∧ (True)) (by kernel_rfl) ⟨trivial, trivial⟩

/-! plugtree/plugref.Loaded -/
def F38_l8 (n : Nat) (m0 : List Int) (k38_8 : (Int × (List Int)) → Option (Int × (List Int))) : (Int × (List Int)) → Option (Int × (List Int))
  | (x_2, m0_2) => (bif (decide (x_2 < ((m0.length : Nat) : Int))) then (bif inb x_2 m0.length then (bif (decide ((m0.getD x_2.toNat (0 : Int)) > (0 : Int))) then (bif (decide (m0_2.length + [(IntKind.wrap .i64 ((m0.getD x_2.toNat (0 : Int)) - (1 : Int)))].length ≤ 17179869184)) then (k38_8 ((IntKind.wrap .i64 (x_2 + (1 : Int))), (m0_2 ++ [(IntKind.wrap .i64 ((m0.getD x_2.toNat (0 : Int)) - (1 : Int)))]))) else none) else (k38_8 ((IntKind.wrap .i64 (x_2 + (1 : Int))), m0_2))) else none) else (some ((0 : Int), m0_2)))
def F38_l7 (n : Nat) (periods : List Int) (plan : List (Int × Int)) (frame : Int) (k38_7 : (Int × (List Int)) → Option (Int × (List Int))) : (Int × (List Int)) → Option (Int × (List Int))
  | (x, m0) => (bif (decide (x < ((plan.length : Nat) : Int))) then (bif inb x plan.length then (bif (decide (frame ≥ (plan.getD x.toNat ((0 : Int), (0 : Int))).2)) then (bif inb x periods.length then (bif ((periods.getD x.toNat (0 : Int)) != 0) then (bif (((IntKind.wrap .i64 (frame - (plan.getD x.toNat ((0 : Int), (0 : Int))).2)).tmod (periods.getD x.toNat (0 : Int))) == (0 : Int)) then (bif inb ((plan.getD x.toNat ((0 : Int), (0 : Int))).1) m0.length then (k38_7 ((IntKind.wrap .i64 (x + (1 : Int))), (m0.set (((plan.getD x.toNat ((0 : Int), (0 : Int))).1).toNat) (IntKind.wrap .i64 (x + (1 : Int)))))) else none) else (k38_7 ((IntKind.wrap .i64 (x + (1 : Int))), m0))) else none) else none) else (k38_7 ((IntKind.wrap .i64 (x + (1 : Int))), m0))) else none) else (loopF (F38_l8 n m0) n ((0 : Int), ([] : List Int))))
def F38 (n : Nat) (periods : List Int) (plan : List (Int × Int)) (lanes : Int) (frame : Int) : Option (Int × (List Int)) := ((F40 n periods plan lanes).bind fun y_3 => (bif (y_3 != (0 : Int)) then (some (y_3, ([] : List Int))) else (bif (decide (frame < (0 : Int))) then (some ((1 : Int), ([] : List Int))) else (bif (decide (0 ≤ lanes ∧ lanes ≤ 17179869184)) then (loopF (F38_l7 n periods plan frame) n ((0 : Int), (List.replicate lanes.toNat (0 : Int)))) else none))))
theorem F38_ok (n : Nat) (periods : List Int) (plan : List (Int × Int)) (lanes : Int) (frame : Int) (r : Int × (List Int)) (h : F38 n periods plan lanes frame = some r) : PureC Try.prog 38 [(.sl (.int .i64) periods), (.sl (.st (.pair (.int .i64) (.int .i64))) plan), (.int .i64 lanes), (.int .i64 frame)] (.tup (.cons (.row 0) (.cons (.int .i64 r.1) .nil))) [(.row 3 (.int .i64) r.2)] := by
  refine PureC.mkS Try.func38 rfl rfl ?_
  intro w0 fz0 hfz
  replace h : ((F40 n periods plan lanes).bind fun y_3 => (bif (y_3 != (0 : Int)) then (some (y_3, ([] : List Int))) else (bif (decide (frame < (0 : Int))) then (some ((1 : Int), ([] : List Int))) else (bif (decide (0 ≤ lanes ∧ lanes ≤ 17179869184)) then (loopF (F38_l7 n periods plan frame) n ((0 : Int), (List.replicate lanes.toNat (0 : Int)))) else none)))) = some r := h
  refine TS.seq ?_
  have hq : (True) ∧ ((True) ∧ (True)) := ⟨trivial, ⟨trivial, trivial⟩⟩
  refine TS.reg [] ?_ ?_
  · apply prop_of ?_ hq
    kernel_rfl
  refine XS.then ?_
  refine TS.seq ?_
  refine TS.seq ?_
  obtain ⟨y_3, hx1, h⟩ := bind_some' h
  have hq : (True) ∧ ((True) ∧ ((True) ∧ ((PureC Try.prog 40 [(.sl (.int .i64) periods), (.sl (.st (.pair (.int .i64) (.int .i64))) plan), (.int .i64 lanes)] (.int .i64 y_3) []) ∧ ((True) ∧ (True))))) := ⟨trivial, ⟨trivial, ⟨trivial, ⟨F40_ok n periods plan lanes y_3 hx1, ⟨trivial, trivial⟩⟩⟩⟩⟩
  refine TS.reg [.none, .none, .none, (.call (.int .i64 y_3) [])] ?_ ?_
  · apply prop_of ?_ hq
    kernel_rfl
  refine XS.then ?_
  refine TS.seq ?_
  have hq : (True) ∧ ((True) ∧ (True)) := ⟨trivial, ⟨trivial, trivial⟩⟩
  refine TS.reg [] ?_ ?_
  · apply prop_of ?_ hq
    kernel_rfl
  refine XS.then ?_
  rcases bif_some h with ⟨c2, h⟩ | ⟨c3, h⟩
  · refine TS.cond (y_3 != (0 : Int)) ?_ (fun e => ?_) (fun e => by rw [c2] at e; cases e)
    · kernel_rfl
    refine TS.seq ?_
    have hq : (True) ∧ ((True) ∧ ((True) ∧ (True))) := ⟨trivial, ⟨trivial, ⟨trivial, trivial⟩⟩⟩
    refine TS.reg [] ?_ ?_
    · apply prop_of ?_ hq
      kernel_rfl
    refine XS.then ?_
    refine TS.ret ?_
    refine XS.passR ?_
    obtain rfl : (y_3, ([] : List Int)) = r := Option.some.inj h
    refine XS.wk (.row false 8 [] 3 (.int .i64)) ?_
    exact XS.fin [0] ((True) ∧ ((True) ∧ (True))) (by kernel_rfl) ⟨trivial, ⟨trivial, trivial⟩⟩
  · refine TS.cond (y_3 != (0 : Int)) ?_ (fun e => by rw [c3] at e; cases e) (fun e => ?_)
    · kernel_rfl
    refine TS.skip ?_
    refine XS.then ?_
    refine TS.seq ?_
    refine TS.seq ?_
    have hq : (True) ∧ ((True) ∧ (True)) := ⟨trivial, ⟨trivial, trivial⟩⟩
    refine TS.reg [] ?_ ?_
    · apply prop_of ?_ hq
      kernel_rfl
    refine XS.then ?_
    rcases bif_some h with ⟨c4, h⟩ | ⟨c5, h⟩
    · refine TS.cond (decide (frame < (0 : Int))) ?_ (fun e => ?_) (fun e => by rw [c4] at e; cases e)
      · kernel_rfl
      refine TS.seq ?_
      have hq : (True) ∧ ((True) ∧ (True)) := ⟨trivial, ⟨trivial, trivial⟩⟩
      refine TS.reg [] ?_ ?_
      · apply prop_of ?_ hq
        kernel_rfl
      refine XS.then ?_
      refine TS.ret ?_
      refine XS.passR ?_
      obtain rfl : ((1 : Int), ([] : List Int)) = r := Option.some.inj h
      refine XS.wk (.row false 8 [] 3 (.int .i64)) ?_
      exact XS.fin [0] ((True) ∧ ((True) ∧ (True))) (by kernel_rfl) ⟨trivial, ⟨trivial, trivial⟩⟩
    · refine TS.cond (decide (frame < (0 : Int))) ?_ (fun e => by rw [c5] at e; cases e) (fun e => ?_)
      · kernel_rfl
      refine TS.skip ?_
      refine XS.then ?_
      refine TS.seq ?_
      obtain ⟨t6, h⟩ := test_some h
      have hq : (True) ∧ ((lanes = lanes ∧ (0 ≤ lanes ∧ lanes ≤ 17179869184)) ∧ ((True) ∧ (True))) := ⟨trivial, ⟨⟨rfl, of_decide_eq_true t6⟩, ⟨trivial, trivial⟩⟩⟩
      refine TS.reg [] ?_ ?_
      · apply prop_of ?_ hq
        kernel_rfl
      refine XS.then ?_
      refine TS.seq ?_
      refine TS.seq ?_
      have hq : (True) ∧ ((True) ∧ ((True) ∧ (True))) := ⟨trivial, ⟨trivial, ⟨trivial, trivial⟩⟩⟩
      refine TS.reg [] ?_ ?_
      · apply prop_of ?_ hq
        kernel_rfl
      refine XS.then ?_
      refine TS.block ?_
      refine TS.reLoop [0] (mkMask 73 [0, 3, 11, 28, 29, 30]) (D := Int × (List Int)) (fun d => match d with | (x, m0) => (mkTs 73 [(0, (.sl (.int .i64) periods)), (3, (.int .i64 frame)), (11, (.row 0)), (28, (.sl (.st (.pair (.int .i64) (.int .i64))) plan)), (29, (.int .i64 ((plan.length : Nat) : Int))), (30, (.int .i64 x))], [(.row 3 (.int .i64) m0)])) (fun n' d => loopF (F38_l7 n periods plan frame) n' d = some r) n ((0 : Int), (List.replicate lanes.toNat (0 : Int))) h ?_ (fun d => loopF_zero _ d r) ?_
      · kernel_rfl
      · rintro n7 ⟨x, m0⟩ h
        replace h : (bif (decide (x < ((plan.length : Nat) : Int))) then (bif inb x plan.length then (bif (decide (frame ≥ (plan.getD x.toNat ((0 : Int), (0 : Int))).2)) then (bif inb x periods.length then (bif ((periods.getD x.toNat (0 : Int)) != 0) then (bif (((IntKind.wrap .i64 (frame - (plan.getD x.toNat ((0 : Int), (0 : Int))).2)).tmod (periods.getD x.toNat (0 : Int))) == (0 : Int)) then (bif inb ((plan.getD x.toNat ((0 : Int), (0 : Int))).1) m0.length then ((loopF (F38_l7 n periods plan frame) n7) ((IntKind.wrap .i64 (x + (1 : Int))), (m0.set (((plan.getD x.toNat ((0 : Int), (0 : Int))).1).toNat) (IntKind.wrap .i64 (x + (1 : Int)))))) else none) else ((loopF (F38_l7 n periods plan frame) n7) ((IntKind.wrap .i64 (x + (1 : Int))), m0))) else none) else none) else ((loopF (F38_l7 n periods plan frame) n7) ((IntKind.wrap .i64 (x + (1 : Int))), m0))) else none) else (loopF (F38_l8 n m0) n ((0 : Int), ([] : List Int)))) = some r := h
        refine TS.seq ?_
        have hq : (True) ∧ (True) := ⟨trivial, trivial⟩
        refine TS.reg [] ?_ ?_
        · apply prop_of ?_ hq
          kernel_rfl
        refine XS.then ?_
        refine TS.seq ?_
        rcases bif_some h with ⟨c7, h⟩ | ⟨c8, h⟩
        · refine TS.cond (decide (x < ((plan.length : Nat) : Int))) ?_ (fun e => ?_) (fun e => by rw [c7] at e; cases e)
          · kernel_rfl
          refine TS.skip ?_
          refine XS.then ?_
          refine TS.seq ?_
          refine TS.block ?_
          refine TS.seq ?_
          obtain ⟨t9, h⟩ := test_some h
          have hq : (True) ∧ ((inR x plan.length) ∧ ((True) ∧ ((True) ∧ ((True) ∧ ((True) ∧ (True)))))) := ⟨trivial, ⟨inb_ok t9, ⟨trivial, ⟨trivial, ⟨trivial, ⟨trivial, trivial⟩⟩⟩⟩⟩⟩
          refine TS.reg [] ?_ ?_
          · apply prop_of ?_ hq
            kernel_rfl
          refine XS.then ?_
          refine TS.seq ?_
          rcases bif_some h with ⟨c10, h⟩ | ⟨c11, h⟩
          · obtain ⟨t12, h⟩ := test_some h
            obtain ⟨t13, h⟩ := test_some h
            have hq : ((True) ∧ ((True) ∧ ((True) ∧ ((True) ∧ (((True) ∧ (decide (frame ≥ (plan.getD x.toNat ((0 : Int), (0 : Int))).2)) = true) ∧ ((True) ∧ ((True) ∧ ((True) ∧ ((True) ∧ ((True) ∧ ((True) ∧ ((inR x periods.length) ∧ ((True) ∧ (((periods.getD x.toNat (0 : Int)) ≠ 0) ∧ ((True) ∧ ((True) ∧ (True))))))))))))))))) ∧ (True) := ⟨⟨trivial, ⟨trivial, ⟨trivial, ⟨trivial, ⟨⟨trivial, c10⟩, ⟨trivial, ⟨trivial, ⟨trivial, ⟨trivial, ⟨trivial, ⟨trivial, ⟨inb_ok t12, ⟨trivial, ⟨bne_ok t13, ⟨trivial, ⟨trivial, trivial⟩⟩⟩⟩⟩⟩⟩⟩⟩⟩⟩⟩⟩⟩⟩⟩, trivial⟩
            refine TS.draw 16 [] [.none, .none, .none, .none, .dec true] (by kernel_rfl) ?_ ?_
            · apply prop_of ?_ hq
              kernel_rfl
            refine XS.then ?_
            rcases bif_some h with ⟨c14, h⟩ | ⟨c15, h⟩
            · refine TS.cond (((IntKind.wrap .i64 (frame - (plan.getD x.toNat ((0 : Int), (0 : Int))).2)).tmod (periods.getD x.toNat (0 : Int))) == (0 : Int)) ?_ (fun e => ?_) (fun e => by rw [c14] at e; cases e)
              · kernel_rfl
              obtain ⟨t16, h⟩ := test_some h
              have hq : (True) ∧ ((True) ∧ ((True) ∧ ((True) ∧ ((True) ∧ ((inR ((plan.getD x.toNat ((0 : Int), (0 : Int))).1) m0.length) ∧ ((((((plan.getD x.toNat ((0 : Int), (0 : Int))).1).toNat) < m0.length ∧ (True)) ∧ m0.length = m0.length) ∧ (True))))))) := ⟨trivial, ⟨trivial, ⟨trivial, ⟨trivial, ⟨trivial, ⟨inb_ok t16, ⟨⟨⟨inR_lt (inb_ok t16), trivial⟩, rfl⟩, trivial⟩⟩⟩⟩⟩⟩⟩
              refine TS.reg [] ?_ ?_
              · apply prop_of ?_ hq
                kernel_rfl
              refine XS.blockEnd ?_
              refine XS.then ?_
              have hq : (True) ∧ ((True) ∧ (True)) := ⟨trivial, ⟨trivial, trivial⟩⟩
              refine TS.reg [] ?_ ?_
              · apply prop_of ?_ hq
                kernel_rfl
              refine XS.reAny [0] (mkMask 73 [0, 3, 11, 28, 29, 30]) ((IntKind.wrap .i64 (x + (1 : Int))), (m0.set (((plan.getD x.toNat ((0 : Int), (0 : Int))).1).toNat) (IntKind.wrap .i64 (x + (1 : Int))))) h ?_
              kernel_rfl
            · refine TS.cond (((IntKind.wrap .i64 (frame - (plan.getD x.toNat ((0 : Int), (0 : Int))).2)).tmod (periods.getD x.toNat (0 : Int))) == (0 : Int)) ?_ (fun e => by rw [c15] at e; cases e) (fun e => ?_)
              · kernel_rfl
              refine TS.skip ?_
              refine XS.blockEnd ?_
              refine XS.then ?_
              have hq : (True) ∧ ((True) ∧ (True)) := ⟨trivial, ⟨trivial, trivial⟩⟩
              refine TS.reg [] ?_ ?_
              · apply prop_of ?_ hq
                kernel_rfl
              refine XS.reAny [0] (mkMask 73 [0, 3, 11, 28, 29, 30]) ((IntKind.wrap .i64 (x + (1 : Int))), m0) h ?_
              kernel_rfl
          · have hq : ((True) ∧ ((True) ∧ ((True) ∧ ((True) ∧ (((True) ∧ (decide (frame ≥ (plan.getD x.toNat ((0 : Int), (0 : Int))).2)) = false) ∧ ((True) ∧ (True))))))) ∧ (True) := ⟨⟨trivial, ⟨trivial, ⟨trivial, ⟨trivial, ⟨⟨trivial, c11⟩, ⟨trivial, trivial⟩⟩⟩⟩⟩⟩, trivial⟩
            refine TS.draw 16 [] [.none, .none, .none, .none, .dec false] (by kernel_rfl) ?_ ?_
            · apply prop_of ?_ hq
              kernel_rfl
            refine XS.then ?_
            refine TS.no ?_ ?_
            · kernel_rfl
            refine TS.skip ?_
            refine XS.blockEnd ?_
            refine XS.then ?_
            have hq : (True) ∧ ((True) ∧ (True)) := ⟨trivial, ⟨trivial, trivial⟩⟩
            refine TS.reg [] ?_ ?_
            · apply prop_of ?_ hq
              kernel_rfl
            refine XS.reAny [0] (mkMask 73 [0, 3, 11, 28, 29, 30]) ((IntKind.wrap .i64 (x + (1 : Int))), m0) h ?_
            kernel_rfl
        · refine TS.cond (decide (x < ((plan.length : Nat) : Int))) ?_ (fun e => by rw [c8] at e; cases e) (fun e => ?_)
          · kernel_rfl
          refine TS.exit ?_
          refine XS.passE ?_
          refine XS.passE ?_
          refine XS.out ?_
          refine XS.then ?_
          refine TS.seq ?_
          have hq : (True) ∧ (True) := ⟨trivial, trivial⟩
          refine TS.reg [] ?_ ?_
          · apply prop_of ?_ hq
            kernel_rfl
          refine XS.then ?_
          refine TS.seq ?_
          refine TS.seq ?_
          have hq : (True) ∧ ((True) ∧ ((True) ∧ (True))) := ⟨trivial, ⟨trivial, ⟨trivial, trivial⟩⟩⟩
          refine TS.reg [] ?_ ?_
          · apply prop_of ?_ hq
            kernel_rfl
          refine XS.then ?_
          refine TS.block ?_
          refine TS.wk (.row false 14 [] 3 (.int .i64)) ?_
          refine TS.reLoop [1, 0] (mkMask 73 [14, 58, 59, 60]) (D := Int × (List Int)) (fun d => match d with | (x_2, m0_2) => (mkTs 73 [(14, (.row 0)), (58, (.row 1)), (59, (.int .i64 ((m0.length : Nat) : Int))), (60, (.int .i64 x_2))], [(.row 3 (.int .i64) m0_2), (.row 3 (.int .i64) m0)])) (fun n' d => loopF (F38_l8 n m0) n' d = some r) n ((0 : Int), ([] : List Int)) h ?_ (fun d => loopF_zero _ d r) ?_
          · kernel_rfl
          · rintro n8 ⟨x_2, m0_2⟩ h
            replace h : (bif (decide (x_2 < ((m0.length : Nat) : Int))) then (bif inb x_2 m0.length then (bif (decide ((m0.getD x_2.toNat (0 : Int)) > (0 : Int))) then (bif (decide (m0_2.length + [(IntKind.wrap .i64 ((m0.getD x_2.toNat (0 : Int)) - (1 : Int)))].length ≤ 17179869184)) then ((loopF (F38_l8 n m0) n8) ((IntKind.wrap .i64 (x_2 + (1 : Int))), (m0_2 ++ [(IntKind.wrap .i64 ((m0.getD x_2.toNat (0 : Int)) - (1 : Int)))]))) else none) else ((loopF (F38_l8 n m0) n8) ((IntKind.wrap .i64 (x_2 + (1 : Int))), m0_2))) else none) else (some ((0 : Int), m0_2))) = some r := h
            refine TS.seq ?_
            have hq : (True) ∧ (True) := ⟨trivial, trivial⟩
            refine TS.reg [] ?_ ?_
            · apply prop_of ?_ hq
              kernel_rfl
            refine XS.then ?_
            refine TS.seq ?_
            rcases bif_some h with ⟨c17, h⟩ | ⟨c18, h⟩
            · refine TS.cond (decide (x_2 < ((m0.length : Nat) : Int))) ?_ (fun e => ?_) (fun e => by rw [c17] at e; cases e)
              · kernel_rfl
              refine TS.skip ?_
              refine XS.then ?_
              refine TS.seq ?_
              refine TS.block ?_
              refine TS.seq ?_
              obtain ⟨t19, h⟩ := test_some h
              have hq : (inR x_2 m0.length) ∧ ((x_2.toNat < m0.length ∧ (True)) ∧ ((True) ∧ (True))) := ⟨inb_ok t19, ⟨⟨inR_lt (inb_ok t19), trivial⟩, ⟨trivial, trivial⟩⟩⟩
              refine TS.reg [] ?_ ?_
              · apply prop_of ?_ hq
                kernel_rfl
              refine XS.then ?_
              refine TS.seq ?_
              have hq : (True) ∧ ((True) ∧ (True)) := ⟨trivial, ⟨trivial, trivial⟩⟩
              refine TS.reg [] ?_ ?_
              · apply prop_of ?_ hq
                kernel_rfl
              refine XS.then ?_
              rcases bif_some h with ⟨c20, h⟩ | ⟨c21, h⟩
              · refine TS.cond (decide ((m0.getD x_2.toNat (0 : Int)) > (0 : Int))) ?_ (fun e => ?_) (fun e => by rw [c20] at e; cases e)
                · kernel_rfl
                obtain ⟨t22, h⟩ := test_some h
                have hq : (True) ∧ ((True) ∧ ((True) ∧ (((0 < 1 ∧ True) ∧ (True)) ∧ ((m0_2.length + [(IntKind.wrap .i64 ((m0.getD x_2.toNat (0 : Int)) - (1 : Int)))].length ≤ 17179869184) ∧ ((True) ∧ (True)))))) := ⟨trivial, ⟨trivial, ⟨trivial, ⟨⟨⟨by decide, trivial⟩, trivial⟩, ⟨of_decide_eq_true t22, ⟨trivial, trivial⟩⟩⟩⟩⟩⟩
                refine TS.reg [] ?_ ?_
                · apply prop_of ?_ hq
                  kernel_rfl
                refine XS.blockEnd ?_
                refine XS.then ?_
                have hq : (True) ∧ ((True) ∧ (True)) := ⟨trivial, ⟨trivial, trivial⟩⟩
                refine TS.reg [] ?_ ?_
                · apply prop_of ?_ hq
                  kernel_rfl
                refine XS.reAny [3, 1] (mkMask 73 [14, 58, 59, 60]) ((IntKind.wrap .i64 (x_2 + (1 : Int))), (m0_2 ++ [(IntKind.wrap .i64 ((m0.getD x_2.toNat (0 : Int)) - (1 : Int)))])) h ?_
                kernel_rfl
              · refine TS.cond (decide ((m0.getD x_2.toNat (0 : Int)) > (0 : Int))) ?_ (fun e => by rw [c21] at e; cases e) (fun e => ?_)
                · kernel_rfl
                refine TS.skip ?_
                refine XS.blockEnd ?_
                refine XS.then ?_
                have hq : (True) ∧ ((True) ∧ (True)) := ⟨trivial, ⟨trivial, trivial⟩⟩
                refine TS.reg [] ?_ ?_
                · apply prop_of ?_ hq
                  kernel_rfl
                refine XS.reAny [0, 1] (mkMask 73 [14, 58, 59, 60]) ((IntKind.wrap .i64 (x_2 + (1 : Int))), m0_2) h ?_
                kernel_rfl
            · refine TS.cond (decide (x_2 < ((m0.length : Nat) : Int))) ?_ (fun e => by rw [c18] at e; cases e) (fun e => ?_)
              · kernel_rfl
              refine TS.exit ?_
              refine XS.passE ?_
              refine XS.passE ?_
              refine XS.out ?_
              refine XS.then ?_
              refine TS.seq ?_
              have hq : (True) ∧ ((True) ∧ ((True) ∧ (True))) := ⟨trivial, ⟨trivial, ⟨trivial, trivial⟩⟩⟩
              refine TS.reg [] ?_ ?_
              · apply prop_of ?_ hq
                kernel_rfl
              refine XS.then ?_
              refine TS.ret ?_
              obtain rfl : ((0 : Int), m0_2) = r := Option.some.inj h
              exact XS.fin [0] ((True) ∧ ((True) ∧ (True))) (by kernel_rfl) ⟨trivial, ⟨trivial, trivial⟩⟩

/-! slices.Equal[[]int,int] -/
def F25_l2 (n : Nat) (s1 : List Int) (s2 : List Int) (k25_2 : Int → Option Bool) : Int → Option Bool
  | x => (bif (decide (x < ((s1.length : Nat) : Int))) then (bif inb x s1.length then (bif inb x s2.length then (bif ((s1.getD x.toNat (0 : Int)) != (s2.getD x.toNat (0 : Int))) then (some false) else (k25_2 (IntKind.wrap .i64 (x + (1 : Int))))) else none) else none) else (some true))
def F25 (n : Nat) (s1 : List Int) (s2 : List Int) : Option Bool := (bif (((s1.length : Nat) : Int) != ((s2.length : Nat) : Int)) then (some false) else (loopF (F25_l2 n s1 s2) n (0 : Int)))
theorem F25_ok (n : Nat) (s1 : List Int) (s2 : List Int) (r : Bool) (h : F25 n s1 s2 = some r) : PureC Try.prog 25 [(.sl (.int .i64) s1), (.sl (.int .i64) s2)] (.bool r) [] := by
  refine PureC.mkS Try.func25 rfl rfl ?_
  intro w0 fz0 hfz
  replace h : (bif (((s1.length : Nat) : Int) != ((s2.length : Nat) : Int)) then (some false) else (loopF (F25_l2 n s1 s2) n (0 : Int))) = some r := h
  refine TS.seq ?_
  have hq : (True) ∧ (True) := ⟨trivial, trivial⟩
  refine TS.reg [] ?_ ?_
  · apply prop_of ?_ hq
    kernel_rfl
  refine XS.then ?_
  refine TS.seq ?_
  refine TS.seq ?_
  have hq : (True) ∧ ((True) ∧ ((True) ∧ ((True) ∧ ((True) ∧ (True))))) := ⟨trivial, ⟨trivial, ⟨trivial, ⟨trivial, ⟨trivial, trivial⟩⟩⟩⟩⟩
  refine TS.reg [] ?_ ?_
  · apply prop_of ?_ hq
    kernel_rfl
  refine XS.then ?_
  rcases bif_some h with ⟨c1, h⟩ | ⟨c2, h⟩
  · refine TS.cond (((s1.length : Nat) : Int) != ((s2.length : Nat) : Int)) ?_ (fun e => ?_) (fun e => by rw [c1] at e; cases e)
    · kernel_rfl
    refine TS.seq ?_
    have hq : (True) ∧ (True) := ⟨trivial, trivial⟩
    refine TS.reg [] ?_ ?_
    · apply prop_of ?_ hq
      kernel_rfl
    refine XS.then ?_
    refine TS.ret ?_
    refine XS.passR ?_
    obtain rfl : false = r := Option.some.inj h
    exact XS.fin [] ((True) ∧ (True)) (by kernel_rfl) ⟨trivial, trivial⟩
  · refine TS.cond (((s1.length : Nat) : Int) != ((s2.length : Nat) : Int)) ?_ (fun e => by rw [c2] at e; cases e) (fun e => ?_)
    · kernel_rfl
    refine TS.skip ?_
    refine XS.then ?_
    refine TS.seq ?_
    refine TS.seq ?_
    have hq : (True) ∧ ((True) ∧ ((True) ∧ (True))) := ⟨trivial, ⟨trivial, ⟨trivial, trivial⟩⟩⟩
    refine TS.reg [] ?_ ?_
    · apply prop_of ?_ hq
      kernel_rfl
    refine XS.then ?_
    refine TS.block ?_
    refine TS.reLoop [] (mkMask 26 [0, 1, 12, 13]) (D := Int) (fun d => match d with | x => (mkTs 26 [(0, (.sl (.int .i64) s1)), (1, (.sl (.int .i64) s2)), (12, (.int .i64 ((s1.length : Nat) : Int))), (13, (.int .i64 x))], [])) (fun n' d => loopF (F25_l2 n s1 s2) n' d = some r) n (0 : Int) h ?_ (fun d => loopF_zero _ d r) ?_
    · kernel_rfl
    · rintro n2 x h
      replace h : (bif (decide (x < ((s1.length : Nat) : Int))) then (bif inb x s1.length then (bif inb x s2.length then (bif ((s1.getD x.toNat (0 : Int)) != (s2.getD x.toNat (0 : Int))) then (some false) else ((loopF (F25_l2 n s1 s2) n2) (IntKind.wrap .i64 (x + (1 : Int))))) else none) else none) else (some true)) = some r := h
      refine TS.seq ?_
      have hq : (True) ∧ (True) := ⟨trivial, trivial⟩
      refine TS.reg [] ?_ ?_
      · apply prop_of ?_ hq
        kernel_rfl
      refine XS.then ?_
      refine TS.seq ?_
      rcases bif_some h with ⟨c3, h⟩ | ⟨c4, h⟩
      · refine TS.cond (decide (x < ((s1.length : Nat) : Int))) ?_ (fun e => ?_) (fun e => by rw [c3] at e; cases e)
        · kernel_rfl
        refine TS.skip ?_
        refine XS.then ?_
        refine TS.seq ?_
        refine TS.block ?_
        refine TS.seq ?_
        have hq : (True) ∧ ((True) ∧ (True)) := ⟨trivial, ⟨trivial, trivial⟩⟩
        refine TS.reg [] ?_ ?_
        · apply prop_of ?_ hq
          kernel_rfl
        refine XS.then ?_
        refine TS.seq ?_
        obtain ⟨t5, h⟩ := test_some h
        obtain ⟨t6, h⟩ := test_some h
        have hq : ((True) ∧ ((True) ∧ ((inR x s1.length) ∧ ((True) ∧ ((True) ∧ ((True) ∧ ((inR x s2.length) ∧ ((True) ∧ ((True) ∧ (True)))))))))) ∧ (True) := ⟨⟨trivial, ⟨trivial, ⟨inb_ok t5, ⟨trivial, ⟨trivial, ⟨trivial, ⟨inb_ok t6, ⟨trivial, ⟨trivial, trivial⟩⟩⟩⟩⟩⟩⟩⟩⟩, trivial⟩
        refine TS.draw 9 [] [] (by kernel_rfl) ?_ ?_
        · apply prop_of ?_ hq
          kernel_rfl
        refine XS.then ?_
        rcases bif_some h with ⟨c7, h⟩ | ⟨c8, h⟩
        · refine TS.cond ((s1.getD x.toNat (0 : Int)) != (s2.getD x.toNat (0 : Int))) ?_ (fun e => ?_) (fun e => by rw [c7] at e; cases e)
          · kernel_rfl
          refine TS.seq ?_
          have hq : (True) ∧ (True) := ⟨trivial, trivial⟩
          refine TS.reg [] ?_ ?_
          · apply prop_of ?_ hq
            kernel_rfl
          refine XS.then ?_
          refine TS.ret ?_
          refine XS.blockRet ?_
          refine XS.passR ?_
          refine XS.passR ?_
          refine XS.blockRet ?_
          refine XS.passR ?_
          obtain rfl : false = r := Option.some.inj h
          exact XS.fin [] ((True) ∧ (True)) (by kernel_rfl) ⟨trivial, trivial⟩
        · refine TS.cond ((s1.getD x.toNat (0 : Int)) != (s2.getD x.toNat (0 : Int))) ?_ (fun e => by rw [c8] at e; cases e) (fun e => ?_)
          · kernel_rfl
          refine TS.skip ?_
          refine XS.blockEnd ?_
          refine XS.then ?_
          have hq : (True) ∧ ((True) ∧ (True)) := ⟨trivial, ⟨trivial, trivial⟩⟩
          refine TS.reg [] ?_ ?_
          · apply prop_of ?_ hq
            kernel_rfl
          refine XS.reAny [] (mkMask 26 [0, 1, 12, 13]) (IntKind.wrap .i64 (x + (1 : Int))) h ?_
          kernel_rfl
      · refine TS.cond (decide (x < ((s1.length : Nat) : Int))) ?_ (fun e => by rw [c4] at e; cases e) (fun e => ?_)
        · kernel_rfl
        refine TS.exit ?_
        refine XS.passE ?_
        refine XS.passE ?_
        refine XS.out ?_
        refine XS.then ?_
        refine TS.seq ?_
        have hq : (True) ∧ (True) := ⟨trivial, trivial⟩
        refine TS.reg [] ?_ ?_
        · apply prop_of ?_ hq
          kernel_rfl
        refine XS.then ?_
        refine TS.ret ?_
        obtain rfl : true = r := Option.some.inj h
        exact XS.fin [] ((True) ∧ (True)) (by kernel_rfl) ⟨trivial, trivial⟩

/-! plugtree/pluglaw.BudgetLoads -/
def F8 (n : Nat) (periods : List Int) (plan : List (Int × Int)) (lanes : Int) (frame : Int) : Option Bool := ((F37 n periods plan lanes frame).bind fun y_2 => ((F38 n periods plan lanes frame).bind fun y_3 => ((F39 n periods plan lanes).bind fun y_4 => ((F40 n periods plan lanes).bind fun y_5 => (bif (y_4 == y_5) then ((F25 n y_2.2 y_3.2).bind fun y_6 => (bif y_6 then (some (y_2.1 == y_3.1)) else (some false))) else (some false))))))
theorem F8_ok (n : Nat) (periods : List Int) (plan : List (Int × Int)) (lanes : Int) (frame : Int) (r : Bool) (h : F8 n periods plan lanes frame = some r) : PureC Try.prog 8 [(.sl (.int .i64) periods), (.sl (.st (.pair (.int .i64) (.int .i64))) plan), (.int .i64 lanes), (.int .i64 frame)] (.bool r) [] := by
  refine PureC.mkS Try.func8 rfl rfl ?_
  intro w0 fz0 hfz
  replace h : ((F37 n periods plan lanes frame).bind fun y_2 => ((F38 n periods plan lanes frame).bind fun y_3 => ((F39 n periods plan lanes).bind fun y_4 => ((F40 n periods plan lanes).bind fun y_5 => (bif (y_4 == y_5) then ((F25 n y_2.2 y_3.2).bind fun y_6 => (bif y_6 then (some (y_2.1 == y_3.1)) else (some false))) else (some false)))))) = some r := h
  refine TS.seq ?_
  have hq : (True) ∧ (True) := ⟨trivial, trivial⟩
  refine TS.reg [] ?_ ?_
  · apply prop_of ?_ hq
    kernel_rfl
  refine XS.then ?_
  refine TS.seq ?_
  obtain ⟨y_2, hx1, h⟩ := bind_some' h
  have hq : (True) ∧ ((True) ∧ ((True) ∧ ((True) ∧ ((PureC Try.prog 37 [(.sl (.int .i64) periods), (.sl (.st (.pair (.int .i64) (.int .i64))) plan), (.int .i64 lanes), (.int .i64 frame)] (.tup (.cons (.row 0) (.cons (.int .i64 y_2.1) .nil))) [(.row 3 (.int .i64) y_2.2)]) ∧ ((True) ∧ ((True) ∧ ((True) ∧ ((True) ∧ ((True) ∧ (True)))))))))) := ⟨trivial, ⟨trivial, ⟨trivial, ⟨trivial, ⟨F37_ok n periods plan lanes frame y_2 hx1, ⟨trivial, ⟨trivial, ⟨trivial, ⟨trivial, ⟨trivial, trivial⟩⟩⟩⟩⟩⟩⟩⟩⟩⟩
  refine TS.reg [.none, .none, .none, .none, (.call (.tup (.cons (.row 0) (.cons (.int .i64 y_2.1) .nil))) [(.row 3 (.int .i64) y_2.2)])] ?_ ?_
  · apply prop_of ?_ hq
    kernel_rfl
  refine XS.then ?_
  refine TS.seq ?_
  obtain ⟨y_3, hx2, h⟩ := bind_some' h
  have hq : (True) ∧ ((True) ∧ ((True) ∧ ((True) ∧ ((PureC Try.prog 38 [(.sl (.int .i64) periods), (.sl (.st (.pair (.int .i64) (.int .i64))) plan), (.int .i64 lanes), (.int .i64 frame)] (.tup (.cons (.row 0) (.cons (.int .i64 y_3.1) .nil))) [(.row 3 (.int .i64) y_3.2)]) ∧ ((True) ∧ ((True) ∧ ((True) ∧ ((True) ∧ ((True) ∧ (True)))))))))) := ⟨trivial, ⟨trivial, ⟨trivial, ⟨trivial, ⟨F38_ok n periods plan lanes frame y_3 hx2, ⟨trivial, ⟨trivial, ⟨trivial, ⟨trivial, ⟨trivial, trivial⟩⟩⟩⟩⟩⟩⟩⟩⟩⟩
  refine TS.reg [.none, .none, .none, .none, (.call (.tup (.cons (.row 0) (.cons (.int .i64 y_3.1) .nil))) [(.row 3 (.int .i64) y_3.2)])] ?_ ?_
  · apply prop_of ?_ hq
    kernel_rfl
  refine XS.then ?_
  refine TS.seq ?_
  obtain ⟨y_4, hx3, h⟩ := bind_some' h
  obtain ⟨y_5, hx4, h⟩ := bind_some' h
  rcases bif_some h with ⟨c5, h⟩ | ⟨c6, h⟩
  · obtain ⟨y_6, hx7, h⟩ := bind_some' h
    rcases bif_some h with ⟨c8, h⟩ | ⟨c9, h⟩
    · have hq : (True) ∧ ((True) ∧ ((True) ∧ ((PureC Try.prog 39 [(.sl (.int .i64) periods), (.sl (.st (.pair (.int .i64) (.int .i64))) plan), (.int .i64 lanes)] (.int .i64 y_4) []) ∧ ((True) ∧ ((True) ∧ ((True) ∧ ((PureC Try.prog 40 [(.sl (.int .i64) periods), (.sl (.st (.pair (.int .i64) (.int .i64))) plan), (.int .i64 lanes)] (.int .i64 y_5) []) ∧ ((True) ∧ (((True) ∧ (y_4 == y_5) = true) ∧ ((True) ∧ ((True) ∧ ((((True) ∧ ((True) ∧ (True))) ∧ PureC Try.prog 25 [(.sl (.int .i64) y_2.2), (.sl (.int .i64) y_3.2)] (.bool y_6) []) ∧ ((True) ∧ (((True) ∧ y_6 = true) ∧ ((True) ∧ ((True) ∧ ((True) ∧ ((True) ∧ ((True) ∧ (True)))))))))))))))))))) := ⟨trivial, ⟨trivial, ⟨trivial, ⟨F39_ok n periods plan lanes y_4 hx3, ⟨trivial, ⟨trivial, ⟨trivial, ⟨F40_ok n periods plan lanes y_5 hx4, ⟨trivial, ⟨⟨trivial, c5⟩, ⟨trivial, ⟨trivial, ⟨⟨⟨trivial, ⟨trivial, trivial⟩⟩, F25_ok n y_2.2 y_3.2 y_6 hx7⟩, ⟨trivial, ⟨⟨trivial, c8⟩, ⟨trivial, ⟨trivial, ⟨trivial, ⟨trivial, ⟨trivial, trivial⟩⟩⟩⟩⟩⟩⟩⟩⟩⟩⟩⟩⟩⟩⟩⟩⟩⟩⟩⟩
      refine TS.reg [.none, .none, .none, (.call (.int .i64 y_4) []), .none, .none, .none, (.call (.int .i64 y_5) []), .none, .dec true, .none, .none, (.call (.bool y_6) []), .none, .dec true] ?_ ?_
      · apply prop_of ?_ hq
        kernel_rfl
      refine XS.then ?_
      refine TS.ret ?_
      obtain rfl : (y_2.1 == y_3.1) = r := Option.some.inj h
      exact XS.fin [] ((True) ∧ (True)) (by kernel_rfl) ⟨trivial, trivial⟩
    · have hq : (True) ∧ ((True) ∧ ((True) ∧ ((PureC Try.prog 39 [(.sl (.int .i64) periods), (.sl (.st (.pair (.int .i64) (.int .i64))) plan), (.int .i64 lanes)] (.int .i64 y_4) []) ∧ ((True) ∧ ((True) ∧ ((True) ∧ ((PureC Try.prog 40 [(.sl (.int .i64) periods), (.sl (.st (.pair (.int .i64) (.int .i64))) plan), (.int .i64 lanes)] (.int .i64 y_5) []) ∧ ((True) ∧ (((True) ∧ (y_4 == y_5) = true) ∧ ((True) ∧ ((True) ∧ ((((True) ∧ ((True) ∧ (True))) ∧ PureC Try.prog 25 [(.sl (.int .i64) y_2.2), (.sl (.int .i64) y_3.2)] (.bool y_6) []) ∧ ((True) ∧ (((True) ∧ y_6 = false) ∧ ((True) ∧ ((True) ∧ (True))))))))))))))))) := ⟨trivial, ⟨trivial, ⟨trivial, ⟨F39_ok n periods plan lanes y_4 hx3, ⟨trivial, ⟨trivial, ⟨trivial, ⟨F40_ok n periods plan lanes y_5 hx4, ⟨trivial, ⟨⟨trivial, c5⟩, ⟨trivial, ⟨trivial, ⟨⟨⟨trivial, ⟨trivial, trivial⟩⟩, F25_ok n y_2.2 y_3.2 y_6 hx7⟩, ⟨trivial, ⟨⟨trivial, c9⟩, ⟨trivial, ⟨trivial, trivial⟩⟩⟩⟩⟩⟩⟩⟩⟩⟩⟩⟩⟩⟩⟩⟩⟩
      refine TS.reg [.none, .none, .none, (.call (.int .i64 y_4) []), .none, .none, .none, (.call (.int .i64 y_5) []), .none, .dec true, .none, .none, (.call (.bool y_6) []), .none, .dec false] ?_ ?_
      · apply prop_of ?_ hq
        kernel_rfl
      refine XS.then ?_
      refine TS.ret ?_
      obtain rfl : false = r := Option.some.inj h
      exact XS.fin [] ((True) ∧ (True)) (by kernel_rfl) ⟨trivial, trivial⟩
  · have hq : (True) ∧ ((True) ∧ ((True) ∧ ((PureC Try.prog 39 [(.sl (.int .i64) periods), (.sl (.st (.pair (.int .i64) (.int .i64))) plan), (.int .i64 lanes)] (.int .i64 y_4) []) ∧ ((True) ∧ ((True) ∧ ((True) ∧ ((PureC Try.prog 40 [(.sl (.int .i64) periods), (.sl (.st (.pair (.int .i64) (.int .i64))) plan), (.int .i64 lanes)] (.int .i64 y_5) []) ∧ ((True) ∧ (((True) ∧ (y_4 == y_5) = false) ∧ ((True) ∧ ((True) ∧ ((True) ∧ ((True) ∧ (True)))))))))))))) := ⟨trivial, ⟨trivial, ⟨trivial, ⟨F39_ok n periods plan lanes y_4 hx3, ⟨trivial, ⟨trivial, ⟨trivial, ⟨F40_ok n periods plan lanes y_5 hx4, ⟨trivial, ⟨⟨trivial, c6⟩, ⟨trivial, ⟨trivial, ⟨trivial, ⟨trivial, trivial⟩⟩⟩⟩⟩⟩⟩⟩⟩⟩⟩⟩⟩⟩
    refine TS.reg [.none, .none, .none, (.call (.int .i64 y_4) []), .none, .none, .none, (.call (.int .i64 y_5) []), .none, .dec false] ?_ ?_
    · apply prop_of ?_ hq
      kernel_rfl
    refine XS.then ?_
    refine TS.ret ?_
    obtain rfl : false = r := Option.some.inj h
    exact XS.fin [] ((True) ∧ (True)) (by kernel_rfl) ⟨trivial, trivial⟩
end Go.Proofs.Ytgcdohclbkmmdaa
