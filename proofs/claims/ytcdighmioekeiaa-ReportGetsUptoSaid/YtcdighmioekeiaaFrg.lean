/- Functions of the program, as functions of values. -/
import Derived.Test.YtcdighmioekeiaaAm28
import Derived.Test.YtcdighmioekeiaaShelf
import Derived.Test.YtcdighmioekeiaaChecked
namespace Go.Proofs.Ytcdighmioekeiaa
open Go Go.RowKit
set_option linter.unusedVariables false
set_option maxRecDepth 100000

/-! plugtree/report.check -/
def F29_j2 (n : Nat) (f_At : Int) (f_Bits : Int) (bits : List UInt8) : Bool → Option Int
  | x => (bif x then (some (1 : Int)) else (bif (decide ((IntKind.wrap .i64 ((8 : Int) * ((bits.length : Nat) : Int))) < (IntKind.wrap .i64 (f_At + f_Bits)))) then (some (3 : Int)) else (some (0 : Int))))
def F29 (n : Nat) (f_At : Int) (f_Bits : Int) (f_Page : Int) (f_Usage : Int) (f_Min : Int) (f_Max : Int) (f_Pad : Bool) (bits : List UInt8) : Option Int := (bif (decide (f_Bits < (1 : Int))) then (F29_j2 n f_At f_Bits bits true) else (bif (decide (f_Bits > (32 : Int))) then (F29_j2 n f_At f_Bits bits true) else (bif (decide (f_At < (0 : Int))) then (F29_j2 n f_At f_Bits bits true) else (F29_j2 n f_At f_Bits bits (decide (f_At > (512 : Int)))))))
theorem F29_ok (n : Nat) (f_At : Int) (f_Bits : Int) (f_Page : Int) (f_Usage : Int) (f_Min : Int) (f_Max : Int) (f_Pad : Bool) (bits : List UInt8) (r : Int) (h : F29 n f_At f_Bits f_Page f_Usage f_Min f_Max f_Pad bits = some r) : PureC Try.prog 29 [(.st (.cons (.int .i64 f_At) (.cons (.int .i64 f_Bits) (.cons (.int .i64 f_Page) (.cons (.int .i64 f_Usage) (.cons (.int .i64 f_Min) (.cons (.int .i64 f_Max) (.bool f_Pad)))))))), (.str bits)] (.int .i64 r) [] := by
  refine PureC.mkS Try.func29 rfl rfl ?_
  intro w0 fz0 hfz
  replace h : (bif (decide (f_Bits < (1 : Int))) then (F29_j2 n f_At f_Bits bits true) else (bif (decide (f_Bits > (32 : Int))) then (F29_j2 n f_At f_Bits bits true) else (bif (decide (f_At < (0 : Int))) then (F29_j2 n f_At f_Bits bits true) else (F29_j2 n f_At f_Bits bits (decide (f_At > (512 : Int))))))) = some r := h
  refine TS.seq ?_
  have hq : (True) ∧ ((True) ∧ (True)) := ⟨trivial, ⟨trivial, trivial⟩⟩
  refine TS.reg [] ?_ ?_
  · apply prop_of ?_ hq
    kernel_rfl
  refine XS.then ?_
  refine TS.seq ?_
  refine TS.block ?_
  refine TS.seq ?_
  refine TS.cut (D := Bool) (fun d => match d with | x => (mkTs 34 [(1, (.str bits)), (2, (.ptr 0 [])), (5, (.bool x))], [(.box 27 (.st (.cons (.int .i64 f_At) (.cons (.int .i64 f_Bits) (.cons (.int .i64 f_Page) (.cons (.int .i64 f_Usage) (.cons (.int .i64 f_Min) (.cons (.int .i64 f_Max) (.bool f_Pad)))))))))])) (fun d => F29_j2 n f_At f_Bits bits d = some r) ?_ ?_
  · rintro x h
    replace h : (bif x then (some (1 : Int)) else (bif (decide ((IntKind.wrap .i64 ((8 : Int) * ((bits.length : Nat) : Int))) < (IntKind.wrap .i64 (f_At + f_Bits)))) then (some (3 : Int)) else (some (0 : Int)))) = some r := h
    refine XS.then ?_
    rcases bif_some h with ⟨c1, h⟩ | ⟨c2, h⟩
    · refine TS.cond x ?_ (fun hcz => ?_) (fun hcz => by rw [c1] at hcz; cases hcz)
      · kernel_rfl
      refine TS.seq ?_
      have hq : (True) ∧ (True) := ⟨trivial, trivial⟩
      refine TS.reg [] ?_ ?_
      · apply prop_of ?_ hq
        kernel_rfl
      refine XS.then ?_
      refine TS.ret ?_
      refine XS.blockRet ?_
      refine XS.passR ?_
      obtain rfl : (1 : Int) = r := Option.some.inj h
      exact XS.fin [] ((True) ∧ (True)) (by kernel_rfl) ⟨trivial, trivial⟩
    · refine TS.cond x ?_ (fun hcz => by rw [c2] at hcz; cases hcz) (fun hcz => ?_)
      · kernel_rfl
      refine TS.seq ?_
      have hq : (True) ∧ ((True) ∧ ((True) ∧ ((True) ∧ ((True) ∧ ((True) ∧ ((True) ∧ ((True) ∧ ((True) ∧ ((True) ∧ (True)))))))))) := ⟨trivial, ⟨trivial, ⟨trivial, ⟨trivial, ⟨trivial, ⟨trivial, ⟨trivial, ⟨trivial, ⟨trivial, ⟨trivial, trivial⟩⟩⟩⟩⟩⟩⟩⟩⟩⟩
      refine TS.reg [] ?_ ?_
      · apply prop_of ?_ hq
        kernel_rfl
      refine XS.then ?_
      rcases bif_some h with ⟨c3, h⟩ | ⟨c4, h⟩
      · refine TS.cond (decide ((IntKind.wrap .i64 ((8 : Int) * ((bits.length : Nat) : Int))) < (IntKind.wrap .i64 (f_At + f_Bits)))) ?_ (fun hcz => ?_) (fun hcz => by rw [c3] at hcz; cases hcz)
        · kernel_rfl
        refine TS.seq ?_
        have hq : (True) ∧ (True) := ⟨trivial, trivial⟩
        refine TS.reg [] ?_ ?_
        · apply prop_of ?_ hq
          kernel_rfl
        refine XS.then ?_
        refine TS.ret ?_
        refine XS.blockRet ?_
        refine XS.passR ?_
        obtain rfl : (3 : Int) = r := Option.some.inj h
        exact XS.fin [] ((True) ∧ (True)) (by kernel_rfl) ⟨trivial, trivial⟩
      · refine TS.cond (decide ((IntKind.wrap .i64 ((8 : Int) * ((bits.length : Nat) : Int))) < (IntKind.wrap .i64 (f_At + f_Bits)))) ?_ (fun hcz => by rw [c4] at hcz; cases hcz) (fun hcz => ?_)
        · kernel_rfl
        refine TS.skip ?_
        refine XS.blockEnd ?_
        refine XS.then ?_
        refine TS.seq ?_
        have hq : (True) ∧ (True) := ⟨trivial, trivial⟩
        refine TS.reg [] ?_ ?_
        · apply prop_of ?_ hq
          kernel_rfl
        refine XS.then ?_
        refine TS.ret ?_
        obtain rfl : (0 : Int) = r := Option.some.inj h
        exact XS.fin [] ((True) ∧ (True)) (by kernel_rfl) ⟨trivial, trivial⟩
  · rcases bif_some h with ⟨c5, h⟩ | ⟨c6, h⟩
    · have hq : (True) ∧ ((True) ∧ ((True) ∧ (((True) ∧ (decide (f_Bits < (1 : Int))) = true) ∧ ((True) ∧ ((True) ∧ ((True) ∧ ((True) ∧ ((True) ∧ ((True) ∧ (True)))))))))) := ⟨trivial, ⟨trivial, ⟨trivial, ⟨⟨trivial, c5⟩, ⟨trivial, ⟨trivial, ⟨trivial, ⟨trivial, ⟨trivial, ⟨trivial, trivial⟩⟩⟩⟩⟩⟩⟩⟩⟩⟩
      refine TS.reg [.none, .none, .none, .dec true] ?_ ?_
      · apply prop_of ?_ hq
        kernel_rfl
      refine XS.reAny [0] (mkMask 34 [1, 2, 5]) true h ?_
      kernel_rfl
    · rcases bif_some h with ⟨c7, h⟩ | ⟨c8, h⟩
      · have hq : (True) ∧ ((True) ∧ ((True) ∧ (((True) ∧ (decide (f_Bits < (1 : Int))) = false) ∧ ((True) ∧ ((True) ∧ ((True) ∧ ((True) ∧ (((True) ∧ (decide (f_Bits > (32 : Int))) = true) ∧ ((True) ∧ ((True) ∧ ((True) ∧ ((True) ∧ (True))))))))))))) := ⟨trivial, ⟨trivial, ⟨trivial, ⟨⟨trivial, c6⟩, ⟨trivial, ⟨trivial, ⟨trivial, ⟨trivial, ⟨⟨trivial, c7⟩, ⟨trivial, ⟨trivial, ⟨trivial, ⟨trivial, trivial⟩⟩⟩⟩⟩⟩⟩⟩⟩⟩⟩⟩⟩
        refine TS.reg [.none, .none, .none, .dec false, .none, .none, .none, .none, .dec true] ?_ ?_
        · apply prop_of ?_ hq
          kernel_rfl
        refine XS.reAny [0] (mkMask 34 [1, 2, 5]) true h ?_
        kernel_rfl
      · rcases bif_some h with ⟨c9, h⟩ | ⟨c10, h⟩
        · have hq : (True) ∧ ((True) ∧ ((True) ∧ (((True) ∧ (decide (f_Bits < (1 : Int))) = false) ∧ ((True) ∧ ((True) ∧ ((True) ∧ ((True) ∧ (((True) ∧ (decide (f_Bits > (32 : Int))) = false) ∧ ((True) ∧ ((True) ∧ ((True) ∧ ((True) ∧ (((True) ∧ (decide (f_At < (0 : Int))) = true) ∧ ((True) ∧ ((True) ∧ (True)))))))))))))))) := ⟨trivial, ⟨trivial, ⟨trivial, ⟨⟨trivial, c6⟩, ⟨trivial, ⟨trivial, ⟨trivial, ⟨trivial, ⟨⟨trivial, c8⟩, ⟨trivial, ⟨trivial, ⟨trivial, ⟨trivial, ⟨⟨trivial, c9⟩, ⟨trivial, ⟨trivial, trivial⟩⟩⟩⟩⟩⟩⟩⟩⟩⟩⟩⟩⟩⟩⟩⟩
          refine TS.reg [.none, .none, .none, .dec false, .none, .none, .none, .none, .dec false, .none, .none, .none, .none, .dec true] ?_ ?_
          · apply prop_of ?_ hq
            kernel_rfl
          refine XS.reAny [0] (mkMask 34 [1, 2, 5]) true h ?_
          kernel_rfl
        · have hq : (True) ∧ ((True) ∧ ((True) ∧ (((True) ∧ (decide (f_Bits < (1 : Int))) = false) ∧ ((True) ∧ ((True) ∧ ((True) ∧ ((True) ∧ (((True) ∧ (decide (f_Bits > (32 : Int))) = false) ∧ ((True) ∧ ((True) ∧ ((True) ∧ ((True) ∧ (((True) ∧ (decide (f_At < (0 : Int))) = false) ∧ ((True) ∧ ((True) ∧ ((True) ∧ ((True) ∧ ((True) ∧ (True))))))))))))))))))) := ⟨trivial, ⟨trivial, ⟨trivial, ⟨⟨trivial, c6⟩, ⟨trivial, ⟨trivial, ⟨trivial, ⟨trivial, ⟨⟨trivial, c8⟩, ⟨trivial, ⟨trivial, ⟨trivial, ⟨trivial, ⟨⟨trivial, c10⟩, ⟨trivial, ⟨trivial, ⟨trivial, ⟨trivial, ⟨trivial, trivial⟩⟩⟩⟩⟩⟩⟩⟩⟩⟩⟩⟩⟩⟩⟩⟩⟩⟩⟩
          refine TS.reg [.none, .none, .none, .dec false, .none, .none, .none, .none, .dec false, .none, .none, .none, .none, .dec false] ?_ ?_
          · apply prop_of ?_ hq
            kernel_rfl
          refine XS.reAny [0] (mkMask 34 [1, 2, 5]) (decide (f_At > (512 : Int))) h ?_
          kernel_rfl

/-! plugtree/report.Get -/
def F12_l2 (n : Nat) (f_At : Int) (f_Bits : Int) (f_Min : Int) (bits : List UInt8) (k12_2 : (Int × Int) → Option (Int × Int)) : (Int × Int) → Option (Int × Int)
  | (v, x) => (bif (decide (x < f_Bits)) then (bif inb (IntKind.wrap .i64 ((IntKind.wrap .i64 (f_At + x)).tdiv (8 : Int))) bits.length then (bif (decide (0 ≤ (IntKind.wrap .u64 (((IntKind.wrap .i64 (f_At + x)).tmod (8 : Int)))))) then (bif (decide (0 ≤ (IntKind.wrap .u64 (x)))) then (k12_2 ((bitsI .or .i64 v (shlI .i64 (IntKind.wrap .i64 ((bitsI .and .u8 (shrI .u8 (((bits.getD ((IntKind.wrap .i64 ((IntKind.wrap .i64 (f_At + x)).tdiv (8 : Int))).toNat) 0).toNat : Nat) : Int) (IntKind.wrap .u64 (((IntKind.wrap .i64 (f_At + x)).tmod (8 : Int))))) (1 : Int)))) (IntKind.wrap .u64 (x)))), (IntKind.wrap .i64 (x + (1 : Int))))) else none) else none) else none) else (bif (decide (f_Min < (0 : Int))) then (bif (decide (0 ≤ (IntKind.wrap .u64 ((IntKind.wrap .i64 (f_Bits - (1 : Int))))))) then (bif ((shrI .i64 v (IntKind.wrap .u64 ((IntKind.wrap .i64 (f_Bits - (1 : Int)))))) == (1 : Int)) then (bif (decide (0 ≤ (IntKind.wrap .u64 (f_Bits)))) then (some ((IntKind.wrap .i64 (v - (shlI .i64 (1 : Int) (IntKind.wrap .u64 (f_Bits))))), (0 : Int))) else none) else (some (v, (0 : Int)))) else none) else (some (v, (0 : Int)))))
def F12 (n : Nat) (f_At : Int) (f_Bits : Int) (f_Page : Int) (f_Usage : Int) (f_Min : Int) (f_Max : Int) (f_Pad : Bool) (bits : List UInt8) : Option (Int × Int) := ((F29 n f_At f_Bits f_Page f_Usage f_Min f_Max f_Pad bits).bind fun y_3 => (bif (y_3 != (0 : Int)) then (some ((0 : Int), y_3)) else (loopF (F12_l2 n f_At f_Bits f_Min bits) n ((0 : Int), (0 : Int)))))
theorem F12_ok (n : Nat) (f_At : Int) (f_Bits : Int) (f_Page : Int) (f_Usage : Int) (f_Min : Int) (f_Max : Int) (f_Pad : Bool) (bits : List UInt8) (r : Int × Int) (h : F12 n f_At f_Bits f_Page f_Usage f_Min f_Max f_Pad bits = some r) : PureC Try.prog 12 [(.st (.cons (.int .i64 f_At) (.cons (.int .i64 f_Bits) (.cons (.int .i64 f_Page) (.cons (.int .i64 f_Usage) (.cons (.int .i64 f_Min) (.cons (.int .i64 f_Max) (.bool f_Pad)))))))), (.str bits)] (.tup (.cons (.int .i64 r.1) (.cons (.int .i64 r.2) .nil))) [] := by
  refine PureC.mkS Try.func12 rfl rfl ?_
  intro w0 fz0 hfz
  replace h : ((F29 n f_At f_Bits f_Page f_Usage f_Min f_Max f_Pad bits).bind fun y_3 => (bif (y_3 != (0 : Int)) then (some ((0 : Int), y_3)) else (loopF (F12_l2 n f_At f_Bits f_Min bits) n ((0 : Int), (0 : Int))))) = some r := h
  refine TS.seq ?_
  have hq : (True) ∧ ((True) ∧ ((True) ∧ (True))) := ⟨trivial, ⟨trivial, ⟨trivial, trivial⟩⟩⟩
  refine TS.reg [] ?_ ?_
  · apply prop_of ?_ hq
    kernel_rfl
  refine XS.then ?_
  refine TS.seq ?_
  refine TS.seq ?_
  obtain ⟨y_3, hx1, h⟩ := bind_some' h
  have hq : (True) ∧ ((True) ∧ ((PureC Try.prog 29 [(.st (.cons (.int .i64 f_At) (.cons (.int .i64 f_Bits) (.cons (.int .i64 f_Page) (.cons (.int .i64 f_Usage) (.cons (.int .i64 f_Min) (.cons (.int .i64 f_Max) (.bool f_Pad)))))))), (.str bits)] (.int .i64 y_3) []) ∧ ((True) ∧ (True)))) := ⟨trivial, ⟨trivial, ⟨F29_ok n f_At f_Bits f_Page f_Usage f_Min f_Max f_Pad bits y_3 hx1, ⟨trivial, trivial⟩⟩⟩⟩
  refine TS.reg [.none, .none, (.call (.int .i64 y_3) [])] ?_ ?_
  · apply prop_of ?_ hq
    kernel_rfl
  refine XS.then ?_
  refine TS.seq ?_
  have hq : (True) ∧ ((True) ∧ (True)) := ⟨trivial, ⟨trivial, trivial⟩⟩
  refine TS.reg [] ?_ ?_
  · apply prop_of ?_ hq
    kernel_rfl
  refine XS.then ?_
  rcases bif_some h with ⟨c2, h⟩ | ⟨c3, h⟩
  · refine TS.cond (y_3 != (0 : Int)) ?_ (fun hcz => ?_) (fun hcz => by rw [c2] at hcz; cases hcz)
    · kernel_rfl
    refine TS.seq ?_
    have hq : (True) ∧ ((True) ∧ ((True) ∧ (True))) := ⟨trivial, ⟨trivial, ⟨trivial, trivial⟩⟩⟩
    refine TS.reg [] ?_ ?_
    · apply prop_of ?_ hq
      kernel_rfl
    refine XS.then ?_
    refine TS.ret ?_
    refine XS.passR ?_
    obtain rfl : ((0 : Int), y_3) = r := Option.some.inj h
    exact XS.fin [] ((True) ∧ ((True) ∧ (True))) (by kernel_rfl) ⟨trivial, ⟨trivial, trivial⟩⟩
  · refine TS.cond (y_3 != (0 : Int)) ?_ (fun hcz => by rw [c3] at hcz; cases hcz) (fun hcz => ?_)
    · kernel_rfl
    refine TS.skip ?_
    refine XS.then ?_
    refine TS.seq ?_
    have hq : (True) ∧ (True) := ⟨trivial, trivial⟩
    refine TS.reg [] ?_ ?_
    · apply prop_of ?_ hq
      kernel_rfl
    refine XS.then ?_
    refine TS.seq ?_
    refine TS.seq ?_
    have hq : (True) ∧ ((True) ∧ ((True) ∧ (True))) := ⟨trivial, ⟨trivial, ⟨trivial, trivial⟩⟩⟩
    refine TS.reg [] ?_ ?_
    · apply prop_of ?_ hq
      kernel_rfl
    refine XS.then ?_
    refine TS.block ?_
    refine TS.reLoop [0] (mkMask 60 [1, 2, 7, 17, 18]) (D := Int × Int) (fun d => match d with | (v, x) => (mkTs 60 [(1, (.str bits)), (2, (.ptr 0 [])), (7, (.int .i64 v)), (17, (.int .i64 f_Bits)), (18, (.int .i64 x))], [(.box 27 (.st (.cons (.int .i64 f_At) (.cons (.int .i64 f_Bits) (.cons (.int .i64 f_Page) (.cons (.int .i64 f_Usage) (.cons (.int .i64 f_Min) (.cons (.int .i64 f_Max) (.bool f_Pad)))))))))])) (fun n' d => loopF (F12_l2 n f_At f_Bits f_Min bits) n' d = some r) n ((0 : Int), (0 : Int)) h ?_ (fun d => loopF_zero _ d r) ?_
    · kernel_rfl
    · rintro n2 ⟨v, x⟩ h
      replace h : (bif (decide (x < f_Bits)) then (bif inb (IntKind.wrap .i64 ((IntKind.wrap .i64 (f_At + x)).tdiv (8 : Int))) bits.length then (bif (decide (0 ≤ (IntKind.wrap .u64 (((IntKind.wrap .i64 (f_At + x)).tmod (8 : Int)))))) then (bif (decide (0 ≤ (IntKind.wrap .u64 (x)))) then ((loopF (F12_l2 n f_At f_Bits f_Min bits) n2) ((bitsI .or .i64 v (shlI .i64 (IntKind.wrap .i64 ((bitsI .and .u8 (shrI .u8 (((bits.getD ((IntKind.wrap .i64 ((IntKind.wrap .i64 (f_At + x)).tdiv (8 : Int))).toNat) 0).toNat : Nat) : Int) (IntKind.wrap .u64 (((IntKind.wrap .i64 (f_At + x)).tmod (8 : Int))))) (1 : Int)))) (IntKind.wrap .u64 (x)))), (IntKind.wrap .i64 (x + (1 : Int))))) else none) else none) else none) else (bif (decide (f_Min < (0 : Int))) then (bif (decide (0 ≤ (IntKind.wrap .u64 ((IntKind.wrap .i64 (f_Bits - (1 : Int))))))) then (bif ((shrI .i64 v (IntKind.wrap .u64 ((IntKind.wrap .i64 (f_Bits - (1 : Int)))))) == (1 : Int)) then (bif (decide (0 ≤ (IntKind.wrap .u64 (f_Bits)))) then (some ((IntKind.wrap .i64 (v - (shlI .i64 (1 : Int) (IntKind.wrap .u64 (f_Bits))))), (0 : Int))) else none) else (some (v, (0 : Int)))) else none) else (some (v, (0 : Int))))) = some r := h
      refine TS.seq ?_
      have hq : (True) ∧ (True) := ⟨trivial, trivial⟩
      refine TS.reg [] ?_ ?_
      · apply prop_of ?_ hq
        kernel_rfl
      refine XS.then ?_
      refine TS.seq ?_
      rcases bif_some h with ⟨c4, h⟩ | ⟨c5, h⟩
      · refine TS.cond (decide (x < f_Bits)) ?_ (fun hcz => ?_) (fun hcz => by rw [c4] at hcz; cases hcz)
        · kernel_rfl
        refine TS.skip ?_
        refine XS.then ?_
        refine TS.seq ?_
        refine TS.block ?_
        refine TS.seq ?_
        have hq : (True) ∧ ((True) ∧ (True)) := ⟨trivial, ⟨trivial, trivial⟩⟩
        refine TS.reg [] ?_ ?_
        · apply prop_of ?_ hq
          kernel_rfl
        refine XS.then ?_
        refine TS.seq ?_
        have hq : (True) ∧ ((True) ∧ ((True) ∧ ((True) ∧ ((True) ∧ (True))))) := ⟨trivial, ⟨trivial, ⟨trivial, ⟨trivial, ⟨trivial, trivial⟩⟩⟩⟩⟩
        refine TS.reg [] ?_ ?_
        · apply prop_of ?_ hq
          kernel_rfl
        refine XS.then ?_
        obtain ⟨t6, h⟩ := test_some h
        obtain ⟨t7, h⟩ := test_some h
        obtain ⟨t8, h⟩ := test_some h
        have hq : (True) ∧ ((True) ∧ ((True) ∧ (((8 : Int) ≠ 0) ∧ ((inR (IntKind.wrap .i64 ((IntKind.wrap .i64 (f_At + x)).tdiv (8 : Int))) bits.length) ∧ ((True) ∧ (((8 : Int) ≠ 0) ∧ ((True) ∧ ((0 ≤ (IntKind.wrap .u64 (((IntKind.wrap .i64 (f_At + x)).tmod (8 : Int))))) ∧ ((True) ∧ ((True) ∧ ((True) ∧ ((True) ∧ ((0 ≤ (IntKind.wrap .u64 (x))) ∧ ((True) ∧ ((True) ∧ (True)))))))))))))))) := ⟨trivial, ⟨trivial, ⟨trivial, ⟨by decide, ⟨inb_ok t6, ⟨trivial, ⟨by decide, ⟨trivial, ⟨of_decide_eq_true t7, ⟨trivial, ⟨trivial, ⟨trivial, ⟨trivial, ⟨of_decide_eq_true t8, ⟨trivial, ⟨trivial, trivial⟩⟩⟩⟩⟩⟩⟩⟩⟩⟩⟩⟩⟩⟩⟩⟩
        refine TS.reg [] ?_ ?_
        · apply prop_of ?_ hq
          kernel_rfl
        refine XS.blockEnd ?_
        refine XS.then ?_
        have hq : (True) ∧ ((True) ∧ (True)) := ⟨trivial, ⟨trivial, trivial⟩⟩
        refine TS.reg [] ?_ ?_
        · apply prop_of ?_ hq
          kernel_rfl
        refine XS.reAny [0] (mkMask 60 [1, 2, 7, 17, 18]) ((bitsI .or .i64 v (shlI .i64 (IntKind.wrap .i64 ((bitsI .and .u8 (shrI .u8 (((bits.getD ((IntKind.wrap .i64 ((IntKind.wrap .i64 (f_At + x)).tdiv (8 : Int))).toNat) 0).toNat : Nat) : Int) (IntKind.wrap .u64 (((IntKind.wrap .i64 (f_At + x)).tmod (8 : Int))))) (1 : Int)))) (IntKind.wrap .u64 (x)))), (IntKind.wrap .i64 (x + (1 : Int)))) h ?_
        kernel_rfl
      · refine TS.cond (decide (x < f_Bits)) ?_ (fun hcz => by rw [c5] at hcz; cases hcz) (fun hcz => ?_)
        · kernel_rfl
        refine TS.exit ?_
        refine XS.passE ?_
        refine XS.passE ?_
        refine XS.out ?_
        refine XS.then ?_
        refine TS.seq ?_
        refine TS.seq ?_
        rcases bif_some h with ⟨c9, h⟩ | ⟨c10, h⟩
        · obtain ⟨t11, h⟩ := test_some h
          have hq : (True) ∧ ((True) ∧ ((True) ∧ (((True) ∧ (decide (f_Min < (0 : Int))) = true) ∧ ((True) ∧ ((True) ∧ ((True) ∧ ((True) ∧ ((True) ∧ ((0 ≤ (IntKind.wrap .u64 ((IntKind.wrap .i64 (f_Bits - (1 : Int)))))) ∧ ((True) ∧ ((True) ∧ (True)))))))))))) := ⟨trivial, ⟨trivial, ⟨trivial, ⟨⟨trivial, c9⟩, ⟨trivial, ⟨trivial, ⟨trivial, ⟨trivial, ⟨trivial, ⟨of_decide_eq_true t11, ⟨trivial, ⟨trivial, trivial⟩⟩⟩⟩⟩⟩⟩⟩⟩⟩⟩⟩
          refine TS.reg [.none, .none, .none, .dec true] ?_ ?_
          · apply prop_of ?_ hq
            kernel_rfl
          refine XS.then ?_
          rcases bif_some h with ⟨c12, h⟩ | ⟨c13, h⟩
          · refine TS.cond ((shrI .i64 v (IntKind.wrap .u64 ((IntKind.wrap .i64 (f_Bits - (1 : Int)))))) == (1 : Int)) ?_ (fun hcz => ?_) (fun hcz => by rw [c12] at hcz; cases hcz)
            · kernel_rfl
            obtain ⟨t14, h⟩ := test_some h
            have hq : (True) ∧ ((True) ∧ ((True) ∧ ((True) ∧ ((0 ≤ (IntKind.wrap .u64 (f_Bits))) ∧ ((True) ∧ ((True) ∧ (True))))))) := ⟨trivial, ⟨trivial, ⟨trivial, ⟨trivial, ⟨of_decide_eq_true t14, ⟨trivial, ⟨trivial, trivial⟩⟩⟩⟩⟩⟩⟩
            refine TS.reg [] ?_ ?_
            · apply prop_of ?_ hq
              kernel_rfl
            refine XS.then ?_
            refine TS.seq ?_
            have hq : (True) ∧ ((True) ∧ ((True) ∧ (True))) := ⟨trivial, ⟨trivial, ⟨trivial, trivial⟩⟩⟩
            refine TS.reg [] ?_ ?_
            · apply prop_of ?_ hq
              kernel_rfl
            refine XS.then ?_
            refine TS.ret ?_
            obtain rfl : ((IntKind.wrap .i64 (v - (shlI .i64 (1 : Int) (IntKind.wrap .u64 (f_Bits))))), (0 : Int)) = r := Option.some.inj h
            exact XS.fin [] ((True) ∧ ((True) ∧ (True))) (by kernel_rfl) ⟨trivial, ⟨trivial, trivial⟩⟩
          · refine TS.cond ((shrI .i64 v (IntKind.wrap .u64 ((IntKind.wrap .i64 (f_Bits - (1 : Int)))))) == (1 : Int)) ?_ (fun hcz => by rw [c13] at hcz; cases hcz) (fun hcz => ?_)
            · kernel_rfl
            refine TS.skip ?_
            refine XS.then ?_
            refine TS.seq ?_
            have hq : (True) ∧ ((True) ∧ ((True) ∧ (True))) := ⟨trivial, ⟨trivial, ⟨trivial, trivial⟩⟩⟩
            refine TS.reg [] ?_ ?_
            · apply prop_of ?_ hq
              kernel_rfl
            refine XS.then ?_
            refine TS.ret ?_
            obtain rfl : (v, (0 : Int)) = r := Option.some.inj h
            exact XS.fin [] ((True) ∧ ((True) ∧ (True))) (by kernel_rfl) ⟨trivial, ⟨trivial, trivial⟩⟩
        · have hq : (True) ∧ ((True) ∧ ((True) ∧ (((True) ∧ (decide (f_Min < (0 : Int))) = false) ∧ ((True) ∧ (True))))) := ⟨trivial, ⟨trivial, ⟨trivial, ⟨⟨trivial, c10⟩, ⟨trivial, trivial⟩⟩⟩⟩⟩
          refine TS.reg [.none, .none, .none, .dec false] ?_ ?_
          · apply prop_of ?_ hq
            kernel_rfl
          refine XS.then ?_
          refine TS.no ?_ ?_
          · kernel_rfl
          refine TS.skip ?_
          refine XS.then ?_
          refine TS.seq ?_
          have hq : (True) ∧ ((True) ∧ ((True) ∧ (True))) := ⟨trivial, ⟨trivial, ⟨trivial, trivial⟩⟩⟩
          refine TS.reg [] ?_ ?_
          · apply prop_of ?_ hq
            kernel_rfl
          refine XS.then ?_
          refine TS.ret ?_
          obtain rfl : (v, (0 : Int)) = r := Option.some.inj h
          exact XS.fin [] ((True) ∧ ((True) ∧ (True))) (by kernel_rfl) ⟨trivial, ⟨trivial, trivial⟩⟩

/-! plugtree/plugref.Between -/
def F33 (n : Nat) (vn : Int) (low : Int) (high : Int) : Option Bool := (bif (decide (low ≤ vn)) then (some (decide (vn ≤ high))) else (some false))
theorem F33_ok (n : Nat) (vn : Int) (low : Int) (high : Int) (r : Bool) (h : F33 n vn low high = some r) : PureC Try.prog 33 [(.int .i64 vn), (.int .i64 low), (.int .i64 high)] (.bool r) [] := by
  refine PureC.mkS Try.func33 rfl rfl ?_
  intro w0 fz0 hfz
  replace h : (bif (decide (low ≤ vn)) then (some (decide (vn ≤ high))) else (some false)) = some r := h
  refine TS.seq ?_
  have hq : (True) ∧ (True) := ⟨trivial, trivial⟩
  refine TS.reg [] ?_ ?_
  · apply prop_of ?_ hq
    kernel_rfl
  refine XS.then ?_
  refine TS.seq ?_
  rcases bif_some h with ⟨c1, h⟩ | ⟨c2, h⟩
  · have hq : (True) ∧ ((True) ∧ ((True) ∧ (((True) ∧ (decide (low ≤ vn)) = true) ∧ ((True) ∧ ((True) ∧ ((True) ∧ ((True) ∧ ((True) ∧ (True))))))))) := ⟨trivial, ⟨trivial, ⟨trivial, ⟨⟨trivial, c1⟩, ⟨trivial, ⟨trivial, ⟨trivial, ⟨trivial, ⟨trivial, trivial⟩⟩⟩⟩⟩⟩⟩⟩⟩
    refine TS.reg [.none, .none, .none, .dec true] ?_ ?_
    · apply prop_of ?_ hq
      kernel_rfl
    refine XS.then ?_
    refine TS.ret ?_
    obtain rfl : (decide (vn ≤ high)) = r := Option.some.inj h
    exact XS.fin [] ((True) ∧ (True)) (by kernel_rfl) ⟨trivial, trivial⟩
  · have hq : (True) ∧ ((True) ∧ ((True) ∧ (((True) ∧ (decide (low ≤ vn)) = false) ∧ ((True) ∧ ((True) ∧ (True)))))) := ⟨trivial, ⟨trivial, ⟨trivial, ⟨⟨trivial, c2⟩, ⟨trivial, ⟨trivial, trivial⟩⟩⟩⟩⟩⟩
    refine TS.reg [.none, .none, .none, .dec false] ?_ ?_
    · apply prop_of ?_ hq
      kernel_rfl
    refine XS.then ?_
    refine TS.ret ?_
    obtain rfl : false = r := Option.some.inj h
    exact XS.fin [] ((True) ∧ (True)) (by kernel_rfl) ⟨trivial, trivial⟩

/-! plugtree/plugref.FieldRight -/
def F30 (n : Nat) (f_At : Int) (f_Bits : Int) (f_Page : Int) (f_Usage : Int) (f_Min : Int) (f_Max : Int) (f_Pad : Bool) (bits : List UInt8) : Option Int := ((F33 n f_Bits (1 : Int) (32 : Int)).bind fun y_2 => (bif (!y_2) then (some (1 : Int)) else ((F33 n f_At (0 : Int) (512 : Int)).bind fun y_3 => (bif (!y_3) then (some (1 : Int)) else (bif (decide ((IntKind.wrap .i64 (f_At + f_Bits)) > (IntKind.wrap .i64 ((8 : Int) * ((bits.length : Nat) : Int))))) then (some (3 : Int)) else (some (0 : Int)))))))
theorem F30_ok (n : Nat) (f_At : Int) (f_Bits : Int) (f_Page : Int) (f_Usage : Int) (f_Min : Int) (f_Max : Int) (f_Pad : Bool) (bits : List UInt8) (r : Int) (h : F30 n f_At f_Bits f_Page f_Usage f_Min f_Max f_Pad bits = some r) : PureC Try.prog 30 [(.st (.cons (.int .i64 f_At) (.cons (.int .i64 f_Bits) (.cons (.int .i64 f_Page) (.cons (.int .i64 f_Usage) (.cons (.int .i64 f_Min) (.cons (.int .i64 f_Max) (.bool f_Pad)))))))), (.str bits)] (.int .i64 r) [] := by
  refine PureC.mkS Try.func30 rfl rfl ?_
  intro w0 fz0 hfz
  replace h : ((F33 n f_Bits (1 : Int) (32 : Int)).bind fun y_2 => (bif (!y_2) then (some (1 : Int)) else ((F33 n f_At (0 : Int) (512 : Int)).bind fun y_3 => (bif (!y_3) then (some (1 : Int)) else (bif (decide ((IntKind.wrap .i64 (f_At + f_Bits)) > (IntKind.wrap .i64 ((8 : Int) * ((bits.length : Nat) : Int))))) then (some (3 : Int)) else (some (0 : Int))))))) = some r := h
  refine TS.seq ?_
  have hq : (True) ∧ ((True) ∧ (True)) := ⟨trivial, ⟨trivial, trivial⟩⟩
  refine TS.reg [] ?_ ?_
  · apply prop_of ?_ hq
    kernel_rfl
  refine XS.then ?_
  refine TS.seq ?_
  refine TS.seq ?_
  obtain ⟨y_2, hx1, h⟩ := bind_some' h
  rcases bif_some h with ⟨c2, h⟩ | ⟨c3, h⟩
  · have hq : (True) ∧ ((True) ∧ ((PureC Try.prog 33 [(.int .i64 f_Bits), (.int .i64 (1 : Int)), (.int .i64 (32 : Int))] (.bool y_2) []) ∧ ((True) ∧ (((True) ∧ (!y_2) = true) ∧ ((True) ∧ (True)))))) := ⟨trivial, ⟨trivial, ⟨F33_ok n f_Bits (1 : Int) (32 : Int) y_2 hx1, ⟨trivial, ⟨⟨trivial, c2⟩, ⟨trivial, trivial⟩⟩⟩⟩⟩⟩
    refine TS.reg [.none, .none, (.call (.bool y_2) []), .none, .dec true] ?_ ?_
    · apply prop_of ?_ hq
      kernel_rfl
    refine XS.then ?_
    refine TS.yes ?_ ?_
    · kernel_rfl
    refine TS.seq ?_
    have hq : (True) ∧ (True) := ⟨trivial, trivial⟩
    refine TS.reg [] ?_ ?_
    · apply prop_of ?_ hq
      kernel_rfl
    refine XS.then ?_
    refine TS.ret ?_
    refine XS.passR ?_
    obtain rfl : (1 : Int) = r := Option.some.inj h
    exact XS.fin [] ((True) ∧ (True)) (by kernel_rfl) ⟨trivial, trivial⟩
  · obtain ⟨y_3, hx4, h⟩ := bind_some' h
    have hq : (True) ∧ ((True) ∧ ((PureC Try.prog 33 [(.int .i64 f_Bits), (.int .i64 (1 : Int)), (.int .i64 (32 : Int))] (.bool y_2) []) ∧ ((True) ∧ (((True) ∧ (!y_2) = false) ∧ ((True) ∧ ((True) ∧ ((PureC Try.prog 33 [(.int .i64 f_At), (.int .i64 (0 : Int)), (.int .i64 (512 : Int))] (.bool y_3) []) ∧ ((True) ∧ ((True) ∧ (True)))))))))) := ⟨trivial, ⟨trivial, ⟨F33_ok n f_Bits (1 : Int) (32 : Int) y_2 hx1, ⟨trivial, ⟨⟨trivial, c3⟩, ⟨trivial, ⟨trivial, ⟨F33_ok n f_At (0 : Int) (512 : Int) y_3 hx4, ⟨trivial, ⟨trivial, trivial⟩⟩⟩⟩⟩⟩⟩⟩⟩⟩
    refine TS.reg [.none, .none, (.call (.bool y_2) []), .none, .dec false, .none, .none, (.call (.bool y_3) [])] ?_ ?_
    · apply prop_of ?_ hq
      kernel_rfl
    refine XS.then ?_
    rcases bif_some h with ⟨c5, h⟩ | ⟨c6, h⟩
    · refine TS.cond (!y_3) ?_ (fun hcz => ?_) (fun hcz => by rw [c5] at hcz; cases hcz)
      · kernel_rfl
      refine TS.seq ?_
      have hq : (True) ∧ (True) := ⟨trivial, trivial⟩
      refine TS.reg [] ?_ ?_
      · apply prop_of ?_ hq
        kernel_rfl
      refine XS.then ?_
      refine TS.ret ?_
      refine XS.passR ?_
      obtain rfl : (1 : Int) = r := Option.some.inj h
      exact XS.fin [] ((True) ∧ (True)) (by kernel_rfl) ⟨trivial, trivial⟩
    · refine TS.cond (!y_3) ?_ (fun hcz => by rw [c6] at hcz; cases hcz) (fun hcz => ?_)
      · kernel_rfl
      refine TS.skip ?_
      refine XS.then ?_
      refine TS.seq ?_
      refine TS.seq ?_
      have hq : (True) ∧ ((True) ∧ ((True) ∧ ((True) ∧ ((True) ∧ ((True) ∧ ((True) ∧ ((True) ∧ ((True) ∧ (True))))))))) := ⟨trivial, ⟨trivial, ⟨trivial, ⟨trivial, ⟨trivial, ⟨trivial, ⟨trivial, ⟨trivial, ⟨trivial, trivial⟩⟩⟩⟩⟩⟩⟩⟩⟩
      refine TS.reg [] ?_ ?_
      · apply prop_of ?_ hq
        kernel_rfl
      refine XS.then ?_
      rcases bif_some h with ⟨c7, h⟩ | ⟨c8, h⟩
      · refine TS.cond (decide ((IntKind.wrap .i64 (f_At + f_Bits)) > (IntKind.wrap .i64 ((8 : Int) * ((bits.length : Nat) : Int))))) ?_ (fun hcz => ?_) (fun hcz => by rw [c7] at hcz; cases hcz)
        · kernel_rfl
        refine TS.seq ?_
        have hq : (True) ∧ (True) := ⟨trivial, trivial⟩
        refine TS.reg [] ?_ ?_
        · apply prop_of ?_ hq
          kernel_rfl
        refine XS.then ?_
        refine TS.ret ?_
        refine XS.passR ?_
        obtain rfl : (3 : Int) = r := Option.some.inj h
        exact XS.fin [] ((True) ∧ (True)) (by kernel_rfl) ⟨trivial, trivial⟩
      · refine TS.cond (decide ((IntKind.wrap .i64 (f_At + f_Bits)) > (IntKind.wrap .i64 ((8 : Int) * ((bits.length : Nat) : Int))))) ?_ (fun hcz => by rw [c8] at hcz; cases hcz) (fun hcz => ?_)
        · kernel_rfl
        refine TS.skip ?_
        refine XS.then ?_
        refine TS.seq ?_
        have hq : (True) ∧ (True) := ⟨trivial, trivial⟩
        refine TS.reg [] ?_ ?_
        · apply prop_of ?_ hq
          kernel_rfl
        refine XS.then ?_
        refine TS.ret ?_
        obtain rfl : (0 : Int) = r := Option.some.inj h
        exact XS.fin [] ((True) ∧ (True)) (by kernel_rfl) ⟨trivial, trivial⟩

/-! plugtree/plugref.Two -/
def F32_l2 (n : Nat) (k : Int) (k32_2 : (Int × Int) → Option Int) : (Int × Int) → Option Int
  | (vn, x) => (bif (decide (x < k)) then (k32_2 ((IntKind.wrap .i64 (vn * (2 : Int))), (IntKind.wrap .i64 (x + (1 : Int))))) else (some vn))
def F32 (n : Nat) (k : Int) : Option Int := (loopF (F32_l2 n k) n ((1 : Int), (0 : Int)))
theorem F32_ok (n : Nat) (k : Int) (r : Int) (h : F32 n k = some r) : PureC Try.prog 32 [(.int .i64 k)] (.int .i64 r) [] := by
  refine PureC.mkS Try.func32 rfl rfl ?_
  intro w0 fz0 hfz
  replace h : (loopF (F32_l2 n k) n ((1 : Int), (0 : Int))) = some r := h
  refine TS.seq ?_
  have hq : (True) ∧ (True) := ⟨trivial, trivial⟩
  refine TS.reg [] ?_ ?_
  · apply prop_of ?_ hq
    kernel_rfl
  refine XS.then ?_
  refine TS.seq ?_
  have hq : (True) ∧ (True) := ⟨trivial, trivial⟩
  refine TS.reg [] ?_ ?_
  · apply prop_of ?_ hq
    kernel_rfl
  refine XS.then ?_
  refine TS.seq ?_
  refine TS.seq ?_
  have hq : (True) ∧ ((True) ∧ (True)) := ⟨trivial, ⟨trivial, trivial⟩⟩
  refine TS.reg [] ?_ ?_
  · apply prop_of ?_ hq
    kernel_rfl
  refine XS.then ?_
  refine TS.block ?_
  refine TS.reLoop [] (mkMask 11 [3, 4, 5]) (D := Int × Int) (fun d => match d with | (vn, x) => (mkTs 11 [(3, (.int .i64 vn)), (4, (.int .i64 k)), (5, (.int .i64 x))], [])) (fun n' d => loopF (F32_l2 n k) n' d = some r) n ((1 : Int), (0 : Int)) h ?_ (fun d => loopF_zero _ d r) ?_
  · kernel_rfl
  · rintro n2 ⟨vn, x⟩ h
    replace h : (bif (decide (x < k)) then ((loopF (F32_l2 n k) n2) ((IntKind.wrap .i64 (vn * (2 : Int))), (IntKind.wrap .i64 (x + (1 : Int))))) else (some vn)) = some r := h
    refine TS.seq ?_
    have hq : (True) ∧ (True) := ⟨trivial, trivial⟩
    refine TS.reg [] ?_ ?_
    · apply prop_of ?_ hq
      kernel_rfl
    refine XS.then ?_
    refine TS.seq ?_
    rcases bif_some h with ⟨c1, h⟩ | ⟨c2, h⟩
    · refine TS.cond (decide (x < k)) ?_ (fun hcz => ?_) (fun hcz => by rw [c1] at hcz; cases hcz)
      · kernel_rfl
      refine TS.skip ?_
      refine XS.then ?_
      refine TS.seq ?_
      refine TS.block ?_
      have hq : (True) ∧ ((True) ∧ ((True) ∧ (True))) := ⟨trivial, ⟨trivial, ⟨trivial, trivial⟩⟩⟩
      refine TS.reg [] ?_ ?_
      · apply prop_of ?_ hq
        kernel_rfl
      refine XS.blockEnd ?_
      refine XS.then ?_
      have hq : (True) ∧ ((True) ∧ (True)) := ⟨trivial, ⟨trivial, trivial⟩⟩
      refine TS.reg [] ?_ ?_
      · apply prop_of ?_ hq
        kernel_rfl
      refine XS.reAny [] (mkMask 11 [3, 4, 5]) ((IntKind.wrap .i64 (vn * (2 : Int))), (IntKind.wrap .i64 (x + (1 : Int)))) h ?_
      kernel_rfl
    · refine TS.cond (decide (x < k)) ?_ (fun hcz => by rw [c2] at hcz; cases hcz) (fun hcz => ?_)
      · kernel_rfl
      refine TS.exit ?_
      refine XS.passE ?_
      refine XS.passE ?_
      refine XS.out ?_
      refine XS.then ?_
      refine TS.seq ?_
      have hq : (True) ∧ ((True) ∧ (True)) := ⟨trivial, ⟨trivial, trivial⟩⟩
      refine TS.reg [] ?_ ?_
      · apply prop_of ?_ hq
        kernel_rfl
      refine XS.then ?_
      refine TS.ret ?_
      obtain rfl : vn = r := Option.some.inj h
      exact XS.fin [] ((True) ∧ (True)) (by kernel_rfl) ⟨trivial, trivial⟩

/-! plugtree/plugref.Bits -/
def F31_l2 (n : Nat) (s : List UInt8) (k31_2 : (Int × (List Int)) → Option (List UInt8)) : (Int × (List Int)) → Option (List UInt8)
  | (x, m0) => (bif (decide (x < (((List.replicate (IntKind.wrap .i64 ((8 : Int) * ((s.length : Nat) : Int))).toNat (0 : Int)).length : Nat) : Int))) then (bif inb x m0.length then (bif inb (IntKind.wrap .i64 (x.tdiv (8 : Int))) s.length then ((F32 n (x.tmod (8 : Int))).bind fun y_2 => (bif (y_2 != 0) then (bif (((IntKind.wrap .i64 ((IntKind.wrap .i64 ((((s.getD ((IntKind.wrap .i64 (x.tdiv (8 : Int))).toNat) 0).toNat : Nat) : Int))).tdiv y_2)).tmod (2 : Int)) == (1 : Int)) then (bif inb x ((m0.set x.toNat (48 : Int)).length) then (k31_2 ((IntKind.wrap .i64 (x + (1 : Int))), ((m0.set x.toNat (48 : Int)).set x.toNat (49 : Int)))) else none) else (k31_2 ((IntKind.wrap .i64 (x + (1 : Int))), (m0.set x.toNat (48 : Int))))) else none)) else none) else none) else (some (strOf m0)))
def F31 (n : Nat) (s : List UInt8) : Option (List UInt8) := (bif (decide (0 ≤ (IntKind.wrap .i64 ((8 : Int) * ((s.length : Nat) : Int))) ∧ (IntKind.wrap .i64 ((8 : Int) * ((s.length : Nat) : Int))) ≤ 17179869184)) then (loopF (F31_l2 n s) n ((0 : Int), (List.replicate (IntKind.wrap .i64 ((8 : Int) * ((s.length : Nat) : Int))).toNat (0 : Int)))) else none)
theorem F31_ok (n : Nat) (s : List UInt8) (r : List UInt8) (h : F31 n s = some r) : PureC Try.prog 31 [(.str s)] (.str r) [] := by
  refine PureC.mkS Try.func31 rfl rfl ?_
  intro w0 fz0 hfz
  replace h : (bif (decide (0 ≤ (IntKind.wrap .i64 ((8 : Int) * ((s.length : Nat) : Int))) ∧ (IntKind.wrap .i64 ((8 : Int) * ((s.length : Nat) : Int))) ≤ 17179869184)) then (loopF (F31_l2 n s) n ((0 : Int), (List.replicate (IntKind.wrap .i64 ((8 : Int) * ((s.length : Nat) : Int))).toNat (0 : Int)))) else none) = some r := h
  refine TS.seq ?_
  have hq : (True) ∧ (True) := ⟨trivial, trivial⟩
  refine TS.reg [] ?_ ?_
  · apply prop_of ?_ hq
    kernel_rfl
  refine XS.then ?_
  refine TS.seq ?_
  obtain ⟨t1, h⟩ := test_some h
  have hq : (True) ∧ ((True) ∧ ((True) ∧ (((IntKind.wrap .i64 ((8 : Int) * ((s.length : Nat) : Int))) = (IntKind.wrap .i64 ((8 : Int) * ((s.length : Nat) : Int))) ∧ (0 ≤ (IntKind.wrap .i64 ((8 : Int) * ((s.length : Nat) : Int))) ∧ (IntKind.wrap .i64 ((8 : Int) * ((s.length : Nat) : Int))) ≤ 17179869184)) ∧ ((True) ∧ (True))))) := ⟨trivial, ⟨trivial, ⟨trivial, ⟨⟨rfl, of_decide_eq_true t1⟩, ⟨trivial, trivial⟩⟩⟩⟩⟩
  refine TS.reg [] ?_ ?_
  · apply prop_of ?_ hq
    kernel_rfl
  refine XS.then ?_
  refine TS.seq ?_
  refine TS.seq ?_
  have hq : (True) ∧ ((True) ∧ ((True) ∧ (True))) := ⟨trivial, ⟨trivial, ⟨trivial, trivial⟩⟩⟩
  refine TS.reg [] ?_ ?_
  · apply prop_of ?_ hq
    kernel_rfl
  refine XS.then ?_
  refine TS.block ?_
  refine TS.reLoop [0] (mkMask 34 [0, 3, 10, 11]) (D := Int × (List Int)) (fun d => match d with | (x, m0) => (mkTs 34 [(0, (.str s)), (3, (.row 0)), (10, (.int .i64 (((List.replicate (IntKind.wrap .i64 ((8 : Int) * ((s.length : Nat) : Int))).toNat (0 : Int)).length : Nat) : Int))), (11, (.int .i64 x))], [(.row 5 (.int .u8) m0)])) (fun n' d => loopF (F31_l2 n s) n' d = some r) n ((0 : Int), (List.replicate (IntKind.wrap .i64 ((8 : Int) * ((s.length : Nat) : Int))).toNat (0 : Int))) h ?_ (fun d => loopF_zero _ d r) ?_
  · kernel_rfl
  · rintro n2 ⟨x, m0⟩ h
    replace h : (bif (decide (x < (((List.replicate (IntKind.wrap .i64 ((8 : Int) * ((s.length : Nat) : Int))).toNat (0 : Int)).length : Nat) : Int))) then (bif inb x m0.length then (bif inb (IntKind.wrap .i64 (x.tdiv (8 : Int))) s.length then ((F32 n (x.tmod (8 : Int))).bind fun y_2 => (bif (y_2 != 0) then (bif (((IntKind.wrap .i64 ((IntKind.wrap .i64 ((((s.getD ((IntKind.wrap .i64 (x.tdiv (8 : Int))).toNat) 0).toNat : Nat) : Int))).tdiv y_2)).tmod (2 : Int)) == (1 : Int)) then (bif inb x ((m0.set x.toNat (48 : Int)).length) then ((loopF (F31_l2 n s) n2) ((IntKind.wrap .i64 (x + (1 : Int))), ((m0.set x.toNat (48 : Int)).set x.toNat (49 : Int)))) else none) else ((loopF (F31_l2 n s) n2) ((IntKind.wrap .i64 (x + (1 : Int))), (m0.set x.toNat (48 : Int))))) else none)) else none) else none) else (some (strOf m0))) = some r := h
    refine TS.seq ?_
    have hq : (True) ∧ (True) := ⟨trivial, trivial⟩
    refine TS.reg [] ?_ ?_
    · apply prop_of ?_ hq
      kernel_rfl
    refine XS.then ?_
    refine TS.seq ?_
    rcases bif_some h with ⟨c2, h⟩ | ⟨c3, h⟩
    · refine TS.cond (decide (x < (((List.replicate (IntKind.wrap .i64 ((8 : Int) * ((s.length : Nat) : Int))).toNat (0 : Int)).length : Nat) : Int))) ?_ (fun hcz => ?_) (fun hcz => by rw [c2] at hcz; cases hcz)
      · kernel_rfl
      refine TS.skip ?_
      refine XS.then ?_
      refine TS.seq ?_
      refine TS.block ?_
      refine TS.seq ?_
      have hq : (True) ∧ ((True) ∧ (True)) := ⟨trivial, ⟨trivial, trivial⟩⟩
      refine TS.reg [] ?_ ?_
      · apply prop_of ?_ hq
        kernel_rfl
      refine XS.then ?_
      refine TS.seq ?_
      obtain ⟨t4, h⟩ := test_some h
      have hq : (True) ∧ ((True) ∧ ((inR x m0.length) ∧ (((x.toNat < m0.length ∧ (True)) ∧ m0.length = m0.length) ∧ (True)))) := ⟨trivial, ⟨trivial, ⟨inb_ok t4, ⟨⟨⟨inR_lt (inb_ok t4), trivial⟩, rfl⟩, trivial⟩⟩⟩⟩
      refine TS.reg [] ?_ ?_
      · apply prop_of ?_ hq
        kernel_rfl
      refine XS.then ?_
      refine TS.seq ?_
      obtain ⟨t5, h⟩ := test_some h
      obtain ⟨y_2, hx6, h⟩ := bind_some' h
      obtain ⟨t7, h⟩ := test_some h
      have hq : ((True) ∧ ((True) ∧ (((8 : Int) ≠ 0) ∧ ((inR (IntKind.wrap .i64 (x.tdiv (8 : Int))) s.length) ∧ ((True) ∧ ((True) ∧ (((8 : Int) ≠ 0) ∧ ((PureC Try.prog 32 [(.int .i64 (x.tmod (8 : Int)))] (.int .i64 y_2) []) ∧ ((y_2 ≠ 0) ∧ (((2 : Int) ≠ 0) ∧ ((True) ∧ (True)))))))))))) ∧ (True) := ⟨⟨trivial, ⟨trivial, ⟨by decide, ⟨inb_ok t5, ⟨trivial, ⟨trivial, ⟨by decide, ⟨F32_ok n (x.tmod (8 : Int)) y_2 hx6, ⟨bne_ok t7, ⟨by decide, ⟨trivial, trivial⟩⟩⟩⟩⟩⟩⟩⟩⟩⟩⟩, trivial⟩
      refine TS.draw 11 [] [.none, .none, .none, .none, .none, .none, .none, (.call (.int .i64 y_2) [])] (by kernel_rfl) ?_ ?_
      · apply prop_of ?_ hq
        kernel_rfl
      refine XS.then ?_
      rcases bif_some h with ⟨c8, h⟩ | ⟨c9, h⟩
      · refine TS.cond (((IntKind.wrap .i64 ((IntKind.wrap .i64 ((((s.getD ((IntKind.wrap .i64 (x.tdiv (8 : Int))).toNat) 0).toNat : Nat) : Int))).tdiv y_2)).tmod (2 : Int)) == (1 : Int)) ?_ (fun hcz => ?_) (fun hcz => by rw [c8] at hcz; cases hcz)
        · kernel_rfl
        obtain ⟨t10, h⟩ := test_some h
        have hq : (True) ∧ ((True) ∧ ((inR x ((m0.set x.toNat (48 : Int)).length)) ∧ (((x.toNat < (m0.set x.toNat (48 : Int)).length ∧ (True)) ∧ (m0.set x.toNat (48 : Int)).length = (m0.set x.toNat (48 : Int)).length) ∧ (True)))) := ⟨trivial, ⟨trivial, ⟨inb_ok t10, ⟨⟨⟨inR_lt (inb_ok t10), trivial⟩, rfl⟩, trivial⟩⟩⟩⟩
        refine TS.reg [] ?_ ?_
        · apply prop_of ?_ hq
          kernel_rfl
        refine XS.blockEnd ?_
        refine XS.then ?_
        have hq : (True) ∧ ((True) ∧ (True)) := ⟨trivial, ⟨trivial, trivial⟩⟩
        refine TS.reg [] ?_ ?_
        · apply prop_of ?_ hq
          kernel_rfl
        refine XS.reAny [0] (mkMask 34 [0, 3, 10, 11]) ((IntKind.wrap .i64 (x + (1 : Int))), ((m0.set x.toNat (48 : Int)).set x.toNat (49 : Int))) h ?_
        kernel_rfl
      · refine TS.cond (((IntKind.wrap .i64 ((IntKind.wrap .i64 ((((s.getD ((IntKind.wrap .i64 (x.tdiv (8 : Int))).toNat) 0).toNat : Nat) : Int))).tdiv y_2)).tmod (2 : Int)) == (1 : Int)) ?_ (fun hcz => by rw [c9] at hcz; cases hcz) (fun hcz => ?_)
        · kernel_rfl
        refine TS.skip ?_
        refine XS.blockEnd ?_
        refine XS.then ?_
        have hq : (True) ∧ ((True) ∧ (True)) := ⟨trivial, ⟨trivial, trivial⟩⟩
        refine TS.reg [] ?_ ?_
        · apply prop_of ?_ hq
          kernel_rfl
        refine XS.reAny [0] (mkMask 34 [0, 3, 10, 11]) ((IntKind.wrap .i64 (x + (1 : Int))), (m0.set x.toNat (48 : Int))) h ?_
        kernel_rfl
    · refine TS.cond (decide (x < (((List.replicate (IntKind.wrap .i64 ((8 : Int) * ((s.length : Nat) : Int))).toNat (0 : Int)).length : Nat) : Int))) ?_ (fun hcz => by rw [c3] at hcz; cases hcz) (fun hcz => ?_)
      · kernel_rfl
      refine TS.exit ?_
      refine XS.passE ?_
      refine XS.passE ?_
      refine XS.out ?_
      refine XS.then ?_
      refine TS.seq ?_
      have hq : (True) ∧ ((True) ∧ ((True) ∧ (True))) := ⟨trivial, ⟨trivial, ⟨trivial, trivial⟩⟩⟩
      refine TS.reg [] ?_ ?_
      · apply prop_of ?_ hq
        kernel_rfl
      refine XS.then ?_
      refine TS.ret ?_
      obtain rfl : (strOf m0) = r := Option.some.inj h
      exact XS.fin [] ((True) ∧ (True)) (by kernel_rfl) ⟨trivial, trivial⟩

/-! plugtree/plugref.FieldGet -/
def F13_l2 (n : Nat) (f_At : Int) (f_Bits : Int) (f_Min : Int) (y_4 : List UInt8) (k13_2 : (Int × Int) → Option (Int × Int)) : (Int × Int) → Option (Int × Int)
  | (vn, k) => (bif (decide (k ≥ (0 : Int))) then (bif inb k (((y_4.take (IntKind.wrap .i64 (f_At + f_Bits)).toNat).drop f_At.toNat).length) then (k13_2 ((IntKind.wrap .i64 ((IntKind.wrap .i64 ((2 : Int) * vn)) + (IntKind.wrap .i64 ((IntKind.wrap .u8 ((((((y_4.take (IntKind.wrap .i64 (f_At + f_Bits)).toNat).drop f_At.toNat).getD k.toNat 0).toNat : Nat) : Int) - (48 : Int))))))), (IntKind.wrap .i64 (k - (1 : Int))))) else none) else (bif (decide (f_Min < (0 : Int))) then (bif inb (IntKind.wrap .i64 (f_Bits - (1 : Int))) (((y_4.take (IntKind.wrap .i64 (f_At + f_Bits)).toNat).drop f_At.toNat).length) then (bif ((((((y_4.take (IntKind.wrap .i64 (f_At + f_Bits)).toNat).drop f_At.toNat).getD ((IntKind.wrap .i64 (f_Bits - (1 : Int))).toNat) 0).toNat : Nat) : Int) == (49 : Int)) then ((F32 n f_Bits).bind fun y_5 => (some ((IntKind.wrap .i64 (vn - y_5)), (0 : Int)))) else (some (vn, (0 : Int)))) else none) else (some (vn, (0 : Int)))))
def F13 (n : Nat) (f_At : Int) (f_Bits : Int) (f_Page : Int) (f_Usage : Int) (f_Min : Int) (f_Max : Int) (f_Pad : Bool) (bits : List UInt8) : Option (Int × Int) := ((F30 n f_At f_Bits f_Page f_Usage f_Min f_Max f_Pad bits).bind fun y_3 => (bif (y_3 != (0 : Int)) then (some ((0 : Int), y_3)) else ((F31 n bits).bind fun y_4 => (bif subB y_4.length (some f_At) (some (IntKind.wrap .i64 (f_At + f_Bits))) then (loopF (F13_l2 n f_At f_Bits f_Min y_4) n ((0 : Int), (IntKind.wrap .i64 (f_Bits - (1 : Int))))) else none))))
theorem F13_ok (n : Nat) (f_At : Int) (f_Bits : Int) (f_Page : Int) (f_Usage : Int) (f_Min : Int) (f_Max : Int) (f_Pad : Bool) (bits : List UInt8) (r : Int × Int) (h : F13 n f_At f_Bits f_Page f_Usage f_Min f_Max f_Pad bits = some r) : PureC Try.prog 13 [(.st (.cons (.int .i64 f_At) (.cons (.int .i64 f_Bits) (.cons (.int .i64 f_Page) (.cons (.int .i64 f_Usage) (.cons (.int .i64 f_Min) (.cons (.int .i64 f_Max) (.bool f_Pad)))))))), (.str bits)] (.tup (.cons (.int .i64 r.1) (.cons (.int .i64 r.2) .nil))) [] := by
  refine PureC.mkS Try.func13 rfl rfl ?_
  intro w0 fz0 hfz
  replace h : ((F30 n f_At f_Bits f_Page f_Usage f_Min f_Max f_Pad bits).bind fun y_3 => (bif (y_3 != (0 : Int)) then (some ((0 : Int), y_3)) else ((F31 n bits).bind fun y_4 => (bif subB y_4.length (some f_At) (some (IntKind.wrap .i64 (f_At + f_Bits))) then (loopF (F13_l2 n f_At f_Bits f_Min y_4) n ((0 : Int), (IntKind.wrap .i64 (f_Bits - (1 : Int))))) else none)))) = some r := h
  refine TS.seq ?_
  have hq : (True) ∧ ((True) ∧ ((True) ∧ (True))) := ⟨trivial, ⟨trivial, ⟨trivial, trivial⟩⟩⟩
  refine TS.reg [] ?_ ?_
  · apply prop_of ?_ hq
    kernel_rfl
  refine XS.then ?_
  refine TS.seq ?_
  refine TS.seq ?_
  obtain ⟨y_3, hx1, h⟩ := bind_some' h
  have hq : (True) ∧ ((True) ∧ ((PureC Try.prog 30 [(.st (.cons (.int .i64 f_At) (.cons (.int .i64 f_Bits) (.cons (.int .i64 f_Page) (.cons (.int .i64 f_Usage) (.cons (.int .i64 f_Min) (.cons (.int .i64 f_Max) (.bool f_Pad)))))))), (.str bits)] (.int .i64 y_3) []) ∧ ((True) ∧ (True)))) := ⟨trivial, ⟨trivial, ⟨F30_ok n f_At f_Bits f_Page f_Usage f_Min f_Max f_Pad bits y_3 hx1, ⟨trivial, trivial⟩⟩⟩⟩
  refine TS.reg [.none, .none, (.call (.int .i64 y_3) [])] ?_ ?_
  · apply prop_of ?_ hq
    kernel_rfl
  refine XS.then ?_
  refine TS.seq ?_
  have hq : (True) ∧ ((True) ∧ (True)) := ⟨trivial, ⟨trivial, trivial⟩⟩
  refine TS.reg [] ?_ ?_
  · apply prop_of ?_ hq
    kernel_rfl
  refine XS.then ?_
  rcases bif_some h with ⟨c2, h⟩ | ⟨c3, h⟩
  · refine TS.cond (y_3 != (0 : Int)) ?_ (fun hcz => ?_) (fun hcz => by rw [c2] at hcz; cases hcz)
    · kernel_rfl
    refine TS.seq ?_
    have hq : (True) ∧ ((True) ∧ ((True) ∧ (True))) := ⟨trivial, ⟨trivial, ⟨trivial, trivial⟩⟩⟩
    refine TS.reg [] ?_ ?_
    · apply prop_of ?_ hq
      kernel_rfl
    refine XS.then ?_
    refine TS.ret ?_
    refine XS.passR ?_
    obtain rfl : ((0 : Int), y_3) = r := Option.some.inj h
    exact XS.fin [] ((True) ∧ ((True) ∧ (True))) (by kernel_rfl) ⟨trivial, ⟨trivial, trivial⟩⟩
  · refine TS.cond (y_3 != (0 : Int)) ?_ (fun hcz => by rw [c3] at hcz; cases hcz) (fun hcz => ?_)
    · kernel_rfl
    refine TS.skip ?_
    refine XS.then ?_
    refine TS.seq ?_
    obtain ⟨y_4, hx4, h⟩ := bind_some' h
    obtain ⟨t5, h⟩ := test_some h
    have hq : ((True) ∧ ((PureC Try.prog 31 [(.str bits)] (.str y_4) []) ∧ ((True) ∧ ((True) ∧ ((True) ∧ ((True) ∧ ((True) ∧ ((True) ∧ ((True) ∧ ((subC y_4.length (some f_At) (some (IntKind.wrap .i64 (f_At + f_Bits)))) ∧ (True))))))))))) ∧ ((True) ∧ (True)) := ⟨⟨trivial, ⟨F31_ok n bits y_4 hx4, ⟨trivial, ⟨trivial, ⟨trivial, ⟨trivial, ⟨trivial, ⟨trivial, ⟨trivial, ⟨subB_ok t5, trivial⟩⟩⟩⟩⟩⟩⟩⟩⟩⟩, ⟨trivial, trivial⟩⟩
    refine TS.draw 10 [] [.none, (.call (.str y_4) [])] (by kernel_rfl) ?_ ?_
    · apply prop_of ?_ hq
      kernel_rfl
    refine XS.then ?_
    refine TS.seq ?_
    have hq : (True) ∧ (True) := ⟨trivial, trivial⟩
    refine TS.reg [] ?_ ?_
    · apply prop_of ?_ hq
      kernel_rfl
    refine XS.then ?_
    refine TS.seq ?_
    refine TS.seq ?_
    have hq : (True) ∧ ((True) ∧ ((True) ∧ ((True) ∧ (True)))) := ⟨trivial, ⟨trivial, ⟨trivial, ⟨trivial, trivial⟩⟩⟩⟩
    refine TS.reg [] ?_ ?_
    · apply prop_of ?_ hq
      kernel_rfl
    refine XS.then ?_
    refine TS.block ?_
    refine TS.reLoop [0] (mkMask 58 [2, 7, 8, 9]) (D := Int × Int) (fun d => match d with | (vn, k) => (mkTs 58 [(2, (.ptr 0 [])), (7, (.str ((y_4.take (IntKind.wrap .i64 (f_At + f_Bits)).toNat).drop f_At.toNat))), (8, (.int .i64 vn)), (9, (.int .i64 k))], [(.box 27 (.st (.cons (.int .i64 f_At) (.cons (.int .i64 f_Bits) (.cons (.int .i64 f_Page) (.cons (.int .i64 f_Usage) (.cons (.int .i64 f_Min) (.cons (.int .i64 f_Max) (.bool f_Pad)))))))))])) (fun n' d => loopF (F13_l2 n f_At f_Bits f_Min y_4) n' d = some r) n ((0 : Int), (IntKind.wrap .i64 (f_Bits - (1 : Int)))) h ?_ (fun d => loopF_zero _ d r) ?_
    · kernel_rfl
    · rintro n2 ⟨vn, k⟩ h
      replace h : (bif (decide (k ≥ (0 : Int))) then (bif inb k (((y_4.take (IntKind.wrap .i64 (f_At + f_Bits)).toNat).drop f_At.toNat).length) then ((loopF (F13_l2 n f_At f_Bits f_Min y_4) n2) ((IntKind.wrap .i64 ((IntKind.wrap .i64 ((2 : Int) * vn)) + (IntKind.wrap .i64 ((IntKind.wrap .u8 ((((((y_4.take (IntKind.wrap .i64 (f_At + f_Bits)).toNat).drop f_At.toNat).getD k.toNat 0).toNat : Nat) : Int) - (48 : Int))))))), (IntKind.wrap .i64 (k - (1 : Int))))) else none) else (bif (decide (f_Min < (0 : Int))) then (bif inb (IntKind.wrap .i64 (f_Bits - (1 : Int))) (((y_4.take (IntKind.wrap .i64 (f_At + f_Bits)).toNat).drop f_At.toNat).length) then (bif ((((((y_4.take (IntKind.wrap .i64 (f_At + f_Bits)).toNat).drop f_At.toNat).getD ((IntKind.wrap .i64 (f_Bits - (1 : Int))).toNat) 0).toNat : Nat) : Int) == (49 : Int)) then ((F32 n f_Bits).bind fun y_5 => (some ((IntKind.wrap .i64 (vn - y_5)), (0 : Int)))) else (some (vn, (0 : Int)))) else none) else (some (vn, (0 : Int))))) = some r := h
      refine TS.seq ?_
      refine TS.seq ?_
      have hq : (True) ∧ ((True) ∧ (True)) := ⟨trivial, ⟨trivial, trivial⟩⟩
      refine TS.reg [] ?_ ?_
      · apply prop_of ?_ hq
        kernel_rfl
      refine XS.then ?_
      rcases bif_some h with ⟨c6, h⟩ | ⟨c7, h⟩
      · refine TS.cond (decide (k ≥ (0 : Int))) ?_ (fun hcz => ?_) (fun hcz => by rw [c6] at hcz; cases hcz)
        · kernel_rfl
        refine TS.skip ?_
        refine XS.then ?_
        refine TS.seq ?_
        refine TS.block ?_
        obtain ⟨t8, h⟩ := test_some h
        have hq : (True) ∧ ((True) ∧ ((True) ∧ ((True) ∧ ((inR k (((y_4.take (IntKind.wrap .i64 (f_At + f_Bits)).toNat).drop f_At.toNat).length)) ∧ ((True) ∧ ((True) ∧ ((True) ∧ ((True) ∧ (True))))))))) := ⟨trivial, ⟨trivial, ⟨trivial, ⟨trivial, ⟨inb_ok t8, ⟨trivial, ⟨trivial, ⟨trivial, ⟨trivial, trivial⟩⟩⟩⟩⟩⟩⟩⟩⟩
        refine TS.reg [] ?_ ?_
        · apply prop_of ?_ hq
          kernel_rfl
        refine XS.blockEnd ?_
        refine XS.then ?_
        have hq : (True) ∧ ((True) ∧ ((True) ∧ (True))) := ⟨trivial, ⟨trivial, ⟨trivial, trivial⟩⟩⟩
        refine TS.reg [] ?_ ?_
        · apply prop_of ?_ hq
          kernel_rfl
        refine XS.reAny [0] (mkMask 58 [2, 7, 8, 9]) ((IntKind.wrap .i64 ((IntKind.wrap .i64 ((2 : Int) * vn)) + (IntKind.wrap .i64 ((IntKind.wrap .u8 ((((((y_4.take (IntKind.wrap .i64 (f_At + f_Bits)).toNat).drop f_At.toNat).getD k.toNat 0).toNat : Nat) : Int) - (48 : Int))))))), (IntKind.wrap .i64 (k - (1 : Int)))) h ?_
        kernel_rfl
      · refine TS.cond (decide (k ≥ (0 : Int))) ?_ (fun hcz => by rw [c7] at hcz; cases hcz) (fun hcz => ?_)
        · kernel_rfl
        refine TS.exit ?_
        refine XS.passE ?_
        refine XS.passE ?_
        refine XS.out ?_
        refine XS.then ?_
        refine TS.seq ?_
        refine TS.seq ?_
        rcases bif_some h with ⟨c9, h⟩ | ⟨c10, h⟩
        · obtain ⟨t11, h⟩ := test_some h
          have hq : (True) ∧ ((True) ∧ ((True) ∧ (((True) ∧ (decide (f_Min < (0 : Int))) = true) ∧ ((True) ∧ ((True) ∧ ((True) ∧ ((True) ∧ ((inR (IntKind.wrap .i64 (f_Bits - (1 : Int))) (((y_4.take (IntKind.wrap .i64 (f_At + f_Bits)).toNat).drop f_At.toNat).length)) ∧ ((True) ∧ ((True) ∧ (True))))))))))) := ⟨trivial, ⟨trivial, ⟨trivial, ⟨⟨trivial, c9⟩, ⟨trivial, ⟨trivial, ⟨trivial, ⟨trivial, ⟨inb_ok t11, ⟨trivial, ⟨trivial, trivial⟩⟩⟩⟩⟩⟩⟩⟩⟩⟩⟩
          refine TS.reg [.none, .none, .none, .dec true] ?_ ?_
          · apply prop_of ?_ hq
            kernel_rfl
          refine XS.then ?_
          rcases bif_some h with ⟨c12, h⟩ | ⟨c13, h⟩
          · refine TS.cond ((((((y_4.take (IntKind.wrap .i64 (f_At + f_Bits)).toNat).drop f_At.toNat).getD ((IntKind.wrap .i64 (f_Bits - (1 : Int))).toNat) 0).toNat : Nat) : Int) == (49 : Int)) ?_ (fun hcz => ?_) (fun hcz => by rw [c12] at hcz; cases hcz)
            · kernel_rfl
            obtain ⟨y_5, hx14, h⟩ := bind_some' h
            have hq : (True) ∧ ((True) ∧ ((True) ∧ ((PureC Try.prog 32 [(.int .i64 f_Bits)] (.int .i64 y_5) []) ∧ ((True) ∧ ((True) ∧ (True)))))) := ⟨trivial, ⟨trivial, ⟨trivial, ⟨F32_ok n f_Bits y_5 hx14, ⟨trivial, ⟨trivial, trivial⟩⟩⟩⟩⟩⟩
            refine TS.reg [.none, .none, .none, (.call (.int .i64 y_5) [])] ?_ ?_
            · apply prop_of ?_ hq
              kernel_rfl
            refine XS.then ?_
            refine TS.seq ?_
            have hq : (True) ∧ ((True) ∧ ((True) ∧ (True))) := ⟨trivial, ⟨trivial, ⟨trivial, trivial⟩⟩⟩
            refine TS.reg [] ?_ ?_
            · apply prop_of ?_ hq
              kernel_rfl
            refine XS.then ?_
            refine TS.ret ?_
            obtain rfl : ((IntKind.wrap .i64 (vn - y_5)), (0 : Int)) = r := Option.some.inj h
            exact XS.fin [] ((True) ∧ ((True) ∧ (True))) (by kernel_rfl) ⟨trivial, ⟨trivial, trivial⟩⟩
          · refine TS.cond ((((((y_4.take (IntKind.wrap .i64 (f_At + f_Bits)).toNat).drop f_At.toNat).getD ((IntKind.wrap .i64 (f_Bits - (1 : Int))).toNat) 0).toNat : Nat) : Int) == (49 : Int)) ?_ (fun hcz => by rw [c13] at hcz; cases hcz) (fun hcz => ?_)
            · kernel_rfl
            refine TS.skip ?_
            refine XS.then ?_
            refine TS.seq ?_
            have hq : (True) ∧ ((True) ∧ ((True) ∧ (True))) := ⟨trivial, ⟨trivial, ⟨trivial, trivial⟩⟩⟩
            refine TS.reg [] ?_ ?_
            · apply prop_of ?_ hq
              kernel_rfl
            refine XS.then ?_
            refine TS.ret ?_
            obtain rfl : (vn, (0 : Int)) = r := Option.some.inj h
            exact XS.fin [] ((True) ∧ ((True) ∧ (True))) (by kernel_rfl) ⟨trivial, ⟨trivial, trivial⟩⟩
        · have hq : (True) ∧ ((True) ∧ ((True) ∧ (((True) ∧ (decide (f_Min < (0 : Int))) = false) ∧ ((True) ∧ (True))))) := ⟨trivial, ⟨trivial, ⟨trivial, ⟨⟨trivial, c10⟩, ⟨trivial, trivial⟩⟩⟩⟩⟩
          refine TS.reg [.none, .none, .none, .dec false] ?_ ?_
          · apply prop_of ?_ hq
            kernel_rfl
          refine XS.then ?_
          refine TS.no ?_ ?_
          · kernel_rfl
          refine TS.skip ?_
          refine XS.then ?_
          refine TS.seq ?_
          have hq : (True) ∧ ((True) ∧ ((True) ∧ (True))) := ⟨trivial, ⟨trivial, ⟨trivial, trivial⟩⟩⟩
          refine TS.reg [] ?_ ?_
          · apply prop_of ?_ hq
            kernel_rfl
          refine XS.then ?_
          refine TS.ret ?_
          obtain rfl : (vn, (0 : Int)) = r := Option.some.inj h
          exact XS.fin [] ((True) ∧ ((True) ∧ (True))) (by kernel_rfl) ⟨trivial, ⟨trivial, trivial⟩⟩

/-! plugtree/report.Set -/
def F14_l4 (n : Nat) (f_At : Int) (f_Bits : Int) (value : Int) (k14_4 : (Int × (List Int)) → Option ((List UInt8) × Int)) : (Int × (List Int)) → Option ((List UInt8) × Int)
  | (x, m1) => (bif (decide (x < f_Bits)) then (bif inb (IntKind.wrap .i64 ((IntKind.wrap .i64 (f_At + x)).tdiv (8 : Int))) m1.length then (bif (decide (0 ≤ (IntKind.wrap .u64 (((IntKind.wrap .i64 (f_At + x)).tmod (8 : Int)))))) then (bif (decide (0 ≤ (IntKind.wrap .u64 (x)))) then (k14_4 ((IntKind.wrap .i64 (x + (1 : Int))), (m1.set ((IntKind.wrap .i64 ((IntKind.wrap .i64 (f_At + x)).tdiv (8 : Int))).toNat) (bitsI .or .u8 (bitsI .andNot .u8 (m1.getD ((IntKind.wrap .i64 ((IntKind.wrap .i64 (f_At + x)).tdiv (8 : Int))).toNat) (0 : Int)) (shlI .u8 (1 : Int) (IntKind.wrap .u64 (((IntKind.wrap .i64 (f_At + x)).tmod (8 : Int)))))) (shlI .u8 (IntKind.wrap .u8 ((bitsI .and .i64 (shrI .i64 value (IntKind.wrap .u64 (x))) (1 : Int)))) (IntKind.wrap .u64 (((IntKind.wrap .i64 (f_At + x)).tmod (8 : Int))))))))) else none) else none) else none) else (some ((strOf m1), (0 : Int))))
def F14_j3 (n : Nat) (f_At : Int) (f_Bits : Int) (bits : List UInt8) (value : Int) : (Int × Int) → Option ((List UInt8) × Int)
  | (low, high) => (bif (decide (value < low)) then (some (([] : List UInt8), (4 : Int))) else (bif (decide (value ≥ high)) then (some (([] : List UInt8), (4 : Int))) else (bif (decide (bits.length ≤ 140737488355328)) then (loopF (F14_l4 n f_At f_Bits value) n ((0 : Int), (bits.map fun b => ((b.toNat : Nat) : Int)))) else none)))
def F14 (n : Nat) (f_At : Int) (f_Bits : Int) (f_Page : Int) (f_Usage : Int) (f_Min : Int) (f_Max : Int) (f_Pad : Bool) (bits : List UInt8) (value : Int) : Option ((List UInt8) × Int) := ((F29 n f_At f_Bits f_Page f_Usage f_Min f_Max f_Pad bits).bind fun y_3 => (bif (y_3 != (0 : Int)) then (some (([] : List UInt8), y_3)) else (bif (decide (0 ≤ (IntKind.wrap .u64 (f_Bits)))) then (bif (decide (f_Min < (0 : Int))) then (bif (decide (0 ≤ (IntKind.wrap .u64 ((IntKind.wrap .i64 (f_Bits - (1 : Int))))))) then (F14_j3 n f_At f_Bits bits value ((shlI .i64 (-1 : Int) (IntKind.wrap .u64 ((IntKind.wrap .i64 (f_Bits - (1 : Int)))))), (shlI .i64 (1 : Int) (IntKind.wrap .u64 ((IntKind.wrap .i64 (f_Bits - (1 : Int)))))))) else none) else (F14_j3 n f_At f_Bits bits value ((0 : Int), (shlI .i64 (1 : Int) (IntKind.wrap .u64 (f_Bits)))))) else none)))
theorem F14_ok (n : Nat) (f_At : Int) (f_Bits : Int) (f_Page : Int) (f_Usage : Int) (f_Min : Int) (f_Max : Int) (f_Pad : Bool) (bits : List UInt8) (value : Int) (r : (List UInt8) × Int) (h : F14 n f_At f_Bits f_Page f_Usage f_Min f_Max f_Pad bits value = some r) : PureC Try.prog 14 [(.st (.cons (.int .i64 f_At) (.cons (.int .i64 f_Bits) (.cons (.int .i64 f_Page) (.cons (.int .i64 f_Usage) (.cons (.int .i64 f_Min) (.cons (.int .i64 f_Max) (.bool f_Pad)))))))), (.str bits), (.int .i64 value)] (.tup (.cons (.str r.1) (.cons (.int .i64 r.2) .nil))) [] := by
  refine PureC.mkS Try.func14 rfl rfl ?_
  intro w0 fz0 hfz
  replace h : ((F29 n f_At f_Bits f_Page f_Usage f_Min f_Max f_Pad bits).bind fun y_3 => (bif (y_3 != (0 : Int)) then (some (([] : List UInt8), y_3)) else (bif (decide (0 ≤ (IntKind.wrap .u64 (f_Bits)))) then (bif (decide (f_Min < (0 : Int))) then (bif (decide (0 ≤ (IntKind.wrap .u64 ((IntKind.wrap .i64 (f_Bits - (1 : Int))))))) then (F14_j3 n f_At f_Bits bits value ((shlI .i64 (-1 : Int) (IntKind.wrap .u64 ((IntKind.wrap .i64 (f_Bits - (1 : Int)))))), (shlI .i64 (1 : Int) (IntKind.wrap .u64 ((IntKind.wrap .i64 (f_Bits - (1 : Int)))))))) else none) else (F14_j3 n f_At f_Bits bits value ((0 : Int), (shlI .i64 (1 : Int) (IntKind.wrap .u64 (f_Bits)))))) else none))) = some r := h
  refine TS.seq ?_
  have hq : (True) ∧ ((True) ∧ ((True) ∧ (True))) := ⟨trivial, ⟨trivial, ⟨trivial, trivial⟩⟩⟩
  refine TS.reg [] ?_ ?_
  · apply prop_of ?_ hq
    kernel_rfl
  refine XS.then ?_
  refine TS.seq ?_
  refine TS.seq ?_
  obtain ⟨y_3, hx1, h⟩ := bind_some' h
  have hq : (True) ∧ ((True) ∧ ((PureC Try.prog 29 [(.st (.cons (.int .i64 f_At) (.cons (.int .i64 f_Bits) (.cons (.int .i64 f_Page) (.cons (.int .i64 f_Usage) (.cons (.int .i64 f_Min) (.cons (.int .i64 f_Max) (.bool f_Pad)))))))), (.str bits)] (.int .i64 y_3) []) ∧ ((True) ∧ (True)))) := ⟨trivial, ⟨trivial, ⟨F29_ok n f_At f_Bits f_Page f_Usage f_Min f_Max f_Pad bits y_3 hx1, ⟨trivial, trivial⟩⟩⟩⟩
  refine TS.reg [.none, .none, (.call (.int .i64 y_3) [])] ?_ ?_
  · apply prop_of ?_ hq
    kernel_rfl
  refine XS.then ?_
  refine TS.seq ?_
  have hq : (True) ∧ ((True) ∧ (True)) := ⟨trivial, ⟨trivial, trivial⟩⟩
  refine TS.reg [] ?_ ?_
  · apply prop_of ?_ hq
    kernel_rfl
  refine XS.then ?_
  rcases bif_some h with ⟨c2, h⟩ | ⟨c3, h⟩
  · refine TS.cond (y_3 != (0 : Int)) ?_ (fun hcz => ?_) (fun hcz => by rw [c2] at hcz; cases hcz)
    · kernel_rfl
    refine TS.seq ?_
    have hq : (True) ∧ ((True) ∧ ((True) ∧ (True))) := ⟨trivial, ⟨trivial, ⟨trivial, trivial⟩⟩⟩
    refine TS.reg [] ?_ ?_
    · apply prop_of ?_ hq
      kernel_rfl
    refine XS.then ?_
    refine TS.ret ?_
    refine XS.passR ?_
    obtain rfl : (([] : List UInt8), y_3) = r := Option.some.inj h
    exact XS.fin [] ((True) ∧ ((True) ∧ (True))) (by kernel_rfl) ⟨trivial, ⟨trivial, trivial⟩⟩
  · refine TS.cond (y_3 != (0 : Int)) ?_ (fun hcz => by rw [c3] at hcz; cases hcz) (fun hcz => ?_)
    · kernel_rfl
    refine TS.skip ?_
    refine XS.then ?_
    refine TS.seq ?_
    obtain ⟨t4, h⟩ := test_some h
    have hq : ((True) ∧ ((True) ∧ ((True) ∧ ((0 ≤ (IntKind.wrap .u64 (f_Bits))) ∧ ((True) ∧ (True)))))) ∧ ((True) ∧ (True)) := ⟨⟨trivial, ⟨trivial, ⟨trivial, ⟨of_decide_eq_true t4, ⟨trivial, trivial⟩⟩⟩⟩⟩, ⟨trivial, trivial⟩⟩
    refine TS.draw 5 [] [] (by kernel_rfl) ?_ ?_
    · apply prop_of ?_ hq
      kernel_rfl
    refine XS.then ?_
    refine TS.seq ?_
    refine TS.seq ?_
    have hq : (True) ∧ ((True) ∧ ((True) ∧ (True))) := ⟨trivial, ⟨trivial, ⟨trivial, trivial⟩⟩⟩
    refine TS.reg [] ?_ ?_
    · apply prop_of ?_ hq
      kernel_rfl
    refine XS.then ?_
    refine TS.cut (D := Int × Int) (fun d => match d with | (low, high) => (mkTs 84 [(1, (.str bits)), (2, (.int .i64 value)), (3, (.ptr 0 [])), (9, (.int .i64 low)), (10, (.int .i64 high))], [(.box 27 (.st (.cons (.int .i64 f_At) (.cons (.int .i64 f_Bits) (.cons (.int .i64 f_Page) (.cons (.int .i64 f_Usage) (.cons (.int .i64 f_Min) (.cons (.int .i64 f_Max) (.bool f_Pad)))))))))])) (fun d => F14_j3 n f_At f_Bits bits value d = some r) ?_ ?_
    · rintro ⟨low, high⟩ h
      replace h : (bif (decide (value < low)) then (some (([] : List UInt8), (4 : Int))) else (bif (decide (value ≥ high)) then (some (([] : List UInt8), (4 : Int))) else (bif (decide (bits.length ≤ 140737488355328)) then (loopF (F14_l4 n f_At f_Bits value) n ((0 : Int), (bits.map fun b => ((b.toNat : Nat) : Int)))) else none))) = some r := h
      refine XS.then ?_
      refine TS.seq ?_
      refine TS.seq ?_
      rcases bif_some h with ⟨c5, h⟩ | ⟨c6, h⟩
      · have hq : (True) ∧ ((True) ∧ ((True) ∧ (((True) ∧ (decide (value < low)) = true) ∧ ((True) ∧ (True))))) := ⟨trivial, ⟨trivial, ⟨trivial, ⟨⟨trivial, c5⟩, ⟨trivial, trivial⟩⟩⟩⟩⟩
        refine TS.reg [.none, .none, .none, .dec true] ?_ ?_
        · apply prop_of ?_ hq
          kernel_rfl
        refine XS.then ?_
        refine TS.yes ?_ ?_
        · kernel_rfl
        refine TS.seq ?_
        have hq : (True) ∧ ((True) ∧ (True)) := ⟨trivial, ⟨trivial, trivial⟩⟩
        refine TS.reg [] ?_ ?_
        · apply prop_of ?_ hq
          kernel_rfl
        refine XS.then ?_
        refine TS.ret ?_
        refine XS.passR ?_
        obtain rfl : (([] : List UInt8), (4 : Int)) = r := Option.some.inj h
        exact XS.fin [] ((True) ∧ ((True) ∧ (True))) (by kernel_rfl) ⟨trivial, ⟨trivial, trivial⟩⟩
      · have hq : (True) ∧ ((True) ∧ ((True) ∧ (((True) ∧ (decide (value < low)) = false) ∧ ((True) ∧ ((True) ∧ ((True) ∧ ((True) ∧ (True)))))))) := ⟨trivial, ⟨trivial, ⟨trivial, ⟨⟨trivial, c6⟩, ⟨trivial, ⟨trivial, ⟨trivial, ⟨trivial, trivial⟩⟩⟩⟩⟩⟩⟩⟩
        refine TS.reg [.none, .none, .none, .dec false] ?_ ?_
        · apply prop_of ?_ hq
          kernel_rfl
        refine XS.then ?_
        rcases bif_some h with ⟨c7, h⟩ | ⟨c8, h⟩
        · refine TS.cond (decide (value ≥ high)) ?_ (fun hcz => ?_) (fun hcz => by rw [c7] at hcz; cases hcz)
          · kernel_rfl
          refine TS.seq ?_
          have hq : (True) ∧ ((True) ∧ (True)) := ⟨trivial, ⟨trivial, trivial⟩⟩
          refine TS.reg [] ?_ ?_
          · apply prop_of ?_ hq
            kernel_rfl
          refine XS.then ?_
          refine TS.ret ?_
          refine XS.passR ?_
          obtain rfl : (([] : List UInt8), (4 : Int)) = r := Option.some.inj h
          exact XS.fin [] ((True) ∧ ((True) ∧ (True))) (by kernel_rfl) ⟨trivial, ⟨trivial, trivial⟩⟩
        · refine TS.cond (decide (value ≥ high)) ?_ (fun hcz => by rw [c8] at hcz; cases hcz) (fun hcz => ?_)
          · kernel_rfl
          refine TS.skip ?_
          refine XS.then ?_
          refine TS.seq ?_
          obtain ⟨t9, h⟩ := test_some h
          have hq : (True) ∧ ((bits.length ≤ 140737488355328) ∧ ((True) ∧ (True))) := ⟨trivial, ⟨of_decide_eq_true t9, ⟨trivial, trivial⟩⟩⟩
          refine TS.reg [] ?_ ?_
          · apply prop_of ?_ hq
            kernel_rfl
          refine XS.then ?_
          refine TS.seq ?_
          refine TS.seq ?_
          have hq : (True) ∧ ((True) ∧ ((True) ∧ (True))) := ⟨trivial, ⟨trivial, ⟨trivial, trivial⟩⟩⟩
          refine TS.reg [] ?_ ?_
          · apply prop_of ?_ hq
            kernel_rfl
          refine XS.then ?_
          refine TS.block ?_
          refine TS.reLoop [0, 1] (mkMask 84 [2, 3, 11, 48, 49]) (D := Int × (List Int)) (fun d => match d with | (x, m1) => (mkTs 84 [(2, (.int .i64 value)), (3, (.ptr 0 [])), (11, (.row 1)), (48, (.int .i64 f_Bits)), (49, (.int .i64 x))], [(.box 27 (.st (.cons (.int .i64 f_At) (.cons (.int .i64 f_Bits) (.cons (.int .i64 f_Page) (.cons (.int .i64 f_Usage) (.cons (.int .i64 f_Min) (.cons (.int .i64 f_Max) (.bool f_Pad))))))))), (.row 5 (.int .u8) m1)])) (fun n' d => loopF (F14_l4 n f_At f_Bits value) n' d = some r) n ((0 : Int), (bits.map fun b => ((b.toNat : Nat) : Int))) h ?_ (fun d => loopF_zero _ d r) ?_
          · kernel_rfl
          · rintro n4 ⟨x, m1⟩ h
            replace h : (bif (decide (x < f_Bits)) then (bif inb (IntKind.wrap .i64 ((IntKind.wrap .i64 (f_At + x)).tdiv (8 : Int))) m1.length then (bif (decide (0 ≤ (IntKind.wrap .u64 (((IntKind.wrap .i64 (f_At + x)).tmod (8 : Int)))))) then (bif (decide (0 ≤ (IntKind.wrap .u64 (x)))) then ((loopF (F14_l4 n f_At f_Bits value) n4) ((IntKind.wrap .i64 (x + (1 : Int))), (m1.set ((IntKind.wrap .i64 ((IntKind.wrap .i64 (f_At + x)).tdiv (8 : Int))).toNat) (bitsI .or .u8 (bitsI .andNot .u8 (m1.getD ((IntKind.wrap .i64 ((IntKind.wrap .i64 (f_At + x)).tdiv (8 : Int))).toNat) (0 : Int)) (shlI .u8 (1 : Int) (IntKind.wrap .u64 (((IntKind.wrap .i64 (f_At + x)).tmod (8 : Int)))))) (shlI .u8 (IntKind.wrap .u8 ((bitsI .and .i64 (shrI .i64 value (IntKind.wrap .u64 (x))) (1 : Int)))) (IntKind.wrap .u64 (((IntKind.wrap .i64 (f_At + x)).tmod (8 : Int))))))))) else none) else none) else none) else (some ((strOf m1), (0 : Int)))) = some r := h
            refine TS.seq ?_
            have hq : (True) ∧ (True) := ⟨trivial, trivial⟩
            refine TS.reg [] ?_ ?_
            · apply prop_of ?_ hq
              kernel_rfl
            refine XS.then ?_
            refine TS.seq ?_
            rcases bif_some h with ⟨c10, h⟩ | ⟨c11, h⟩
            · refine TS.cond (decide (x < f_Bits)) ?_ (fun hcz => ?_) (fun hcz => by rw [c10] at hcz; cases hcz)
              · kernel_rfl
              refine TS.skip ?_
              refine XS.then ?_
              refine TS.seq ?_
              refine TS.block ?_
              refine TS.seq ?_
              have hq : (True) ∧ ((True) ∧ (True)) := ⟨trivial, ⟨trivial, trivial⟩⟩
              refine TS.reg [] ?_ ?_
              · apply prop_of ?_ hq
                kernel_rfl
              refine XS.then ?_
              refine TS.seq ?_
              have hq : (True) ∧ ((True) ∧ ((True) ∧ ((True) ∧ ((True) ∧ (True))))) := ⟨trivial, ⟨trivial, ⟨trivial, ⟨trivial, ⟨trivial, trivial⟩⟩⟩⟩⟩
              refine TS.reg [] ?_ ?_
              · apply prop_of ?_ hq
                kernel_rfl
              refine XS.then ?_
              obtain ⟨t12, h⟩ := test_some h
              obtain ⟨t13, h⟩ := test_some h
              obtain ⟨t14, h⟩ := test_some h
              have hq : (True) ∧ ((True) ∧ (((8 : Int) ≠ 0) ∧ ((True) ∧ ((True) ∧ (((8 : Int) ≠ 0) ∧ ((inR (IntKind.wrap .i64 ((IntKind.wrap .i64 (f_At + x)).tdiv (8 : Int))) m1.length) ∧ ((((IntKind.wrap .i64 ((IntKind.wrap .i64 (f_At + x)).tdiv (8 : Int))).toNat) < m1.length ∧ (True)) ∧ ((True) ∧ (((8 : Int) ≠ 0) ∧ ((True) ∧ ((0 ≤ (IntKind.wrap .u64 (((IntKind.wrap .i64 (f_At + x)).tmod (8 : Int))))) ∧ ((True) ∧ ((True) ∧ ((True) ∧ ((True) ∧ ((0 ≤ (IntKind.wrap .u64 (x))) ∧ ((True) ∧ ((True) ∧ ((True) ∧ (((8 : Int) ≠ 0) ∧ ((True) ∧ ((0 ≤ (IntKind.wrap .u64 (((IntKind.wrap .i64 (f_At + x)).tmod (8 : Int))))) ∧ ((True) ∧ ((inR (IntKind.wrap .i64 ((IntKind.wrap .i64 (f_At + x)).tdiv (8 : Int))) m1.length) ∧ (((((IntKind.wrap .i64 ((IntKind.wrap .i64 (f_At + x)).tdiv (8 : Int))).toNat) < m1.length ∧ (True)) ∧ m1.length = m1.length) ∧ (True)))))))))))))))))))))))))) := ⟨trivial, ⟨trivial, ⟨by decide, ⟨trivial, ⟨trivial, ⟨by decide, ⟨inb_ok t12, ⟨⟨inR_lt (inb_ok t12), trivial⟩, ⟨trivial, ⟨by decide, ⟨trivial, ⟨of_decide_eq_true t13, ⟨trivial, ⟨trivial, ⟨trivial, ⟨trivial, ⟨of_decide_eq_true t14, ⟨trivial, ⟨trivial, ⟨trivial, ⟨by decide, ⟨trivial, ⟨of_decide_eq_true t13, ⟨trivial, ⟨inb_ok t12, ⟨⟨⟨inR_lt (inb_ok t12), trivial⟩, rfl⟩, trivial⟩⟩⟩⟩⟩⟩⟩⟩⟩⟩⟩⟩⟩⟩⟩⟩⟩⟩⟩⟩⟩⟩⟩⟩⟩⟩
              refine TS.reg [] ?_ ?_
              · apply prop_of ?_ hq
                kernel_rfl
              refine XS.blockEnd ?_
              refine XS.then ?_
              have hq : (True) ∧ ((True) ∧ (True)) := ⟨trivial, ⟨trivial, trivial⟩⟩
              refine TS.reg [] ?_ ?_
              · apply prop_of ?_ hq
                kernel_rfl
              refine XS.reAny [0, 1] (mkMask 84 [2, 3, 11, 48, 49]) ((IntKind.wrap .i64 (x + (1 : Int))), (m1.set ((IntKind.wrap .i64 ((IntKind.wrap .i64 (f_At + x)).tdiv (8 : Int))).toNat) (bitsI .or .u8 (bitsI .andNot .u8 (m1.getD ((IntKind.wrap .i64 ((IntKind.wrap .i64 (f_At + x)).tdiv (8 : Int))).toNat) (0 : Int)) (shlI .u8 (1 : Int) (IntKind.wrap .u64 (((IntKind.wrap .i64 (f_At + x)).tmod (8 : Int)))))) (shlI .u8 (IntKind.wrap .u8 ((bitsI .and .i64 (shrI .i64 value (IntKind.wrap .u64 (x))) (1 : Int)))) (IntKind.wrap .u64 (((IntKind.wrap .i64 (f_At + x)).tmod (8 : Int)))))))) h ?_
              kernel_rfl
            · refine TS.cond (decide (x < f_Bits)) ?_ (fun hcz => by rw [c11] at hcz; cases hcz) (fun hcz => ?_)
              · kernel_rfl
              refine TS.exit ?_
              refine XS.passE ?_
              refine XS.passE ?_
              refine XS.out ?_
              refine XS.then ?_
              refine TS.seq ?_
              have hq : (True) ∧ ((True) ∧ ((True) ∧ ((True) ∧ (True)))) := ⟨trivial, ⟨trivial, ⟨trivial, ⟨trivial, trivial⟩⟩⟩⟩
              refine TS.reg [] ?_ ?_
              · apply prop_of ?_ hq
                kernel_rfl
              refine XS.then ?_
              refine TS.ret ?_
              obtain rfl : ((strOf m1), (0 : Int)) = r := Option.some.inj h
              exact XS.fin [] ((True) ∧ ((True) ∧ (True))) (by kernel_rfl) ⟨trivial, ⟨trivial, trivial⟩⟩
    · rcases bif_some h with ⟨c15, h⟩ | ⟨c16, h⟩
      · refine TS.cond (decide (f_Min < (0 : Int))) ?_ (fun hcz => ?_) (fun hcz => by rw [c15] at hcz; cases hcz)
        · kernel_rfl
        obtain ⟨t17, h⟩ := test_some h
        have hq : ((True) ∧ ((True) ∧ ((True) ∧ ((True) ∧ ((0 ≤ (IntKind.wrap .u64 ((IntKind.wrap .i64 (f_Bits - (1 : Int)))))) ∧ ((True) ∧ ((True) ∧ ((True) ∧ ((True) ∧ ((0 ≤ (IntKind.wrap .u64 ((IntKind.wrap .i64 (f_Bits - (1 : Int)))))) ∧ ((True) ∧ (True)))))))))))) ∧ ((True) ∧ (True)) := ⟨⟨trivial, ⟨trivial, ⟨trivial, ⟨trivial, ⟨of_decide_eq_true t17, ⟨trivial, ⟨trivial, ⟨trivial, ⟨trivial, ⟨of_decide_eq_true t17, ⟨trivial, trivial⟩⟩⟩⟩⟩⟩⟩⟩⟩⟩⟩, ⟨trivial, trivial⟩⟩
        refine TS.draw 11 [] [] (by kernel_rfl) ?_ ?_
        · apply prop_of ?_ hq
          kernel_rfl
        refine XS.reAny [0] (mkMask 84 [1, 2, 3, 9, 10]) ((shlI .i64 (-1 : Int) (IntKind.wrap .u64 ((IntKind.wrap .i64 (f_Bits - (1 : Int)))))), (shlI .i64 (1 : Int) (IntKind.wrap .u64 ((IntKind.wrap .i64 (f_Bits - (1 : Int))))))) h ?_
        kernel_rfl
      · refine TS.cond (decide (f_Min < (0 : Int))) ?_ (fun hcz => by rw [c16] at hcz; cases hcz) (fun hcz => ?_)
        · kernel_rfl
        refine TS.skip ?_
        refine XS.reAny [0] (mkMask 84 [1, 2, 3, 9, 10]) ((0 : Int), (shlI .i64 (1 : Int) (IntKind.wrap .u64 (f_Bits)))) h ?_
        kernel_rfl

/-! strings.IndexByte -/
def F38 (n : Nat) (s : List UInt8) (c : Int) : Option Int := some (Lib.indexByte s (c).toNat.toUInt8)
theorem F38_ok (n : Nat) (s : List UInt8) (c : Int) (r : Int) (h : F38 n s c = some r) : PureC Try.prog 38 [(.str s), (.int .u8 c)] (.int .i64 r) [] := by
  unfold F38 at h
  obtain rfl := Option.some.inj h
  exact PureC.textByte s c _ (fun w => by simpa using Try.strings_IndexByte ⟨s.toArray⟩ c w)

/-! plugtree/plugref.only -/
def F43_l2 (n : Nat) (s : List UInt8) (signs : List UInt8) (k43_2 : Int → Option Bool) : Int → Option Bool
  | x => (bif (decide (x < ((s.length : Nat) : Int))) then (bif inb x s.length then ((F38 n signs (((s.getD x.toNat 0).toNat : Nat) : Int)).bind fun y_2 => (bif (decide (y_2 < (0 : Int))) then (some false) else (k43_2 (IntKind.wrap .i64 (x + (1 : Int)))))) else none) else (some true))
def F43 (n : Nat) (s : List UInt8) (signs : List UInt8) : Option Bool := (loopF (F43_l2 n s signs) n (0 : Int))
theorem F43_ok (n : Nat) (s : List UInt8) (signs : List UInt8) (r : Bool) (h : F43 n s signs = some r) : PureC Try.prog 43 [(.str s), (.str signs)] (.bool r) [] := by
  refine PureC.mkS Try.func43 rfl rfl ?_
  intro w0 fz0 hfz
  replace h : (loopF (F43_l2 n s signs) n (0 : Int)) = some r := h
  refine TS.seq ?_
  have hq : (True) ∧ (True) := ⟨trivial, trivial⟩
  refine TS.reg [] ?_ ?_
  · apply prop_of ?_ hq
    kernel_rfl
  refine XS.then ?_
  refine TS.seq ?_
  refine TS.seq ?_
  have hq : (True) ∧ ((True) ∧ ((True) ∧ (True))) := ⟨trivial, ⟨trivial, ⟨trivial, trivial⟩⟩⟩
  refine TS.reg [] ?_ ?_
  · apply prop_of ?_ hq
    kernel_rfl
  refine XS.then ?_
  refine TS.block ?_
  refine TS.reLoop [] (mkMask 18 [0, 1, 7, 8]) (D := Int) (fun d => match d with | x => (mkTs 18 [(0, (.str s)), (1, (.str signs)), (7, (.int .i64 ((s.length : Nat) : Int))), (8, (.int .i64 x))], [])) (fun n' d => loopF (F43_l2 n s signs) n' d = some r) n (0 : Int) h ?_ (fun d => loopF_zero _ d r) ?_
  · kernel_rfl
  · rintro n2 x h
    replace h : (bif (decide (x < ((s.length : Nat) : Int))) then (bif inb x s.length then ((F38 n signs (((s.getD x.toNat 0).toNat : Nat) : Int)).bind fun y_2 => (bif (decide (y_2 < (0 : Int))) then (some false) else ((loopF (F43_l2 n s signs) n2) (IntKind.wrap .i64 (x + (1 : Int)))))) else none) else (some true)) = some r := h
    refine TS.seq ?_
    have hq : (True) ∧ (True) := ⟨trivial, trivial⟩
    refine TS.reg [] ?_ ?_
    · apply prop_of ?_ hq
      kernel_rfl
    refine XS.then ?_
    refine TS.seq ?_
    rcases bif_some h with ⟨c1, h⟩ | ⟨c2, h⟩
    · refine TS.cond (decide (x < ((s.length : Nat) : Int))) ?_ (fun hcz => ?_) (fun hcz => by rw [c1] at hcz; cases hcz)
      · kernel_rfl
      refine TS.skip ?_
      refine XS.then ?_
      refine TS.seq ?_
      refine TS.block ?_
      refine TS.seq ?_
      have hq : (True) ∧ ((True) ∧ (True)) := ⟨trivial, ⟨trivial, trivial⟩⟩
      refine TS.reg [] ?_ ?_
      · apply prop_of ?_ hq
        kernel_rfl
      refine XS.then ?_
      refine TS.seq ?_
      obtain ⟨t3, h⟩ := test_some h
      obtain ⟨y_2, hx4, h⟩ := bind_some' h
      have hq : (True) ∧ ((True) ∧ ((True) ∧ ((inR x s.length) ∧ ((PureC Try.prog 38 [(.str signs), (.int .u8 (((s.getD x.toNat 0).toNat : Nat) : Int))] (.int .i64 y_2) []) ∧ ((True) ∧ (True)))))) := ⟨trivial, ⟨trivial, ⟨trivial, ⟨inb_ok t3, ⟨F38_ok n signs (((s.getD x.toNat 0).toNat : Nat) : Int) y_2 hx4, ⟨trivial, trivial⟩⟩⟩⟩⟩⟩
      refine TS.reg [.none, .none, .none, .none, (.call (.int .i64 y_2) [])] ?_ ?_
      · apply prop_of ?_ hq
        kernel_rfl
      refine XS.then ?_
      rcases bif_some h with ⟨c5, h⟩ | ⟨c6, h⟩
      · refine TS.cond (decide (y_2 < (0 : Int))) ?_ (fun hcz => ?_) (fun hcz => by rw [c5] at hcz; cases hcz)
        · kernel_rfl
        refine TS.seq ?_
        have hq : (True) ∧ (True) := ⟨trivial, trivial⟩
        refine TS.reg [] ?_ ?_
        · apply prop_of ?_ hq
          kernel_rfl
        refine XS.then ?_
        refine TS.ret ?_
        refine XS.blockRet ?_
        refine XS.passR ?_
        refine XS.passR ?_
        refine XS.blockRet ?_
        refine XS.passR ?_
        obtain rfl : false = r := Option.some.inj h
        exact XS.fin [] ((True) ∧ (True)) (by kernel_rfl) ⟨trivial, trivial⟩
      · refine TS.cond (decide (y_2 < (0 : Int))) ?_ (fun hcz => by rw [c6] at hcz; cases hcz) (fun hcz => ?_)
        · kernel_rfl
        refine TS.skip ?_
        refine XS.blockEnd ?_
        refine XS.then ?_
        have hq : (True) ∧ ((True) ∧ (True)) := ⟨trivial, ⟨trivial, trivial⟩⟩
        refine TS.reg [] ?_ ?_
        · apply prop_of ?_ hq
          kernel_rfl
        refine XS.reAny [] (mkMask 18 [0, 1, 7, 8]) (IntKind.wrap .i64 (x + (1 : Int))) h ?_
        kernel_rfl
    · refine TS.cond (decide (x < ((s.length : Nat) : Int))) ?_ (fun hcz => by rw [c2] at hcz; cases hcz) (fun hcz => ?_)
      · kernel_rfl
      refine TS.exit ?_
      refine XS.passE ?_
      refine XS.passE ?_
      refine XS.out ?_
      refine XS.then ?_
      refine TS.seq ?_
      have hq : (True) ∧ (True) := ⟨trivial, trivial⟩
      refine TS.reg [] ?_ ?_
      · apply prop_of ?_ hq
        kernel_rfl
      refine XS.then ?_
      refine TS.ret ?_
      obtain rfl : true = r := Option.some.inj h
      exact XS.fin [] ((True) ∧ (True)) (by kernel_rfl) ⟨trivial, trivial⟩

/-! plugtree/plugref.Bytes -/
def F34_l8 (n : Nat) (k34_7 : (Int × (List Int)) → Option ((List UInt8) × Int)) (row : List UInt8) (x : Int) (m0 : List Int) (k34_8 : (Int × Int) → Option ((List UInt8) × Int)) : (Int × Int) → Option ((List UInt8) × Int)
  | (vn, k) => (bif (decide (k ≥ (0 : Int))) then (bif inb (IntKind.wrap .i64 ((IntKind.wrap .i64 ((8 : Int) * x)) + k)) row.length then (k34_8 ((IntKind.wrap .i64 ((IntKind.wrap .i64 ((2 : Int) * vn)) + (IntKind.wrap .i64 ((IntKind.wrap .u8 ((((row.getD ((IntKind.wrap .i64 ((IntKind.wrap .i64 ((8 : Int) * x)) + k)).toNat) 0).toNat : Nat) : Int) - (48 : Int))))))), (IntKind.wrap .i64 (k - (1 : Int))))) else none) else (bif inb x m0.length then (k34_7 ((IntKind.wrap .i64 (x + (1 : Int))), (m0.set x.toNat (IntKind.wrap .u8 (vn))))) else none))
def F34_l7 (n : Nat) (row : List UInt8) (k34_7 : (Int × (List Int)) → Option ((List UInt8) × Int)) : (Int × (List Int)) → Option ((List UInt8) × Int)
  | (x, m0) => (bif (decide (x < (((List.replicate (IntKind.wrap .i64 (((row.length : Nat) : Int).tdiv (8 : Int))).toNat (0 : Int)).length : Nat) : Int))) then (loopF (F34_l8 n k34_7 row x m0) n ((0 : Int), (7 : Int))) else (some ((strOf m0), (0 : Int))))
def F34 (n : Nat) (row : List UInt8) : Option ((List UInt8) × Int) := ((F43 n row ([48, 49] : List UInt8)).bind fun y_3 => (bif (!y_3) then (some (([] : List UInt8), (1 : Int))) else (bif ((((row.length : Nat) : Int).tmod (8 : Int)) != (0 : Int)) then (some (([] : List UInt8), (4 : Int))) else (bif (decide (0 ≤ (IntKind.wrap .i64 (((row.length : Nat) : Int).tdiv (8 : Int))) ∧ (IntKind.wrap .i64 (((row.length : Nat) : Int).tdiv (8 : Int))) ≤ 17179869184)) then (loopF (F34_l7 n row) n ((0 : Int), (List.replicate (IntKind.wrap .i64 (((row.length : Nat) : Int).tdiv (8 : Int))).toNat (0 : Int)))) else none))))
theorem F34_ok (n : Nat) (row : List UInt8) (r : (List UInt8) × Int) (h : F34 n row = some r) : PureC Try.prog 34 [(.str row)] (.tup (.cons (.str r.1) (.cons (.int .i64 r.2) .nil))) [] := by
  refine PureC.mkS Try.func34 rfl rfl ?_
  intro w0 fz0 hfz
  replace h : ((F43 n row ([48, 49] : List UInt8)).bind fun y_3 => (bif (!y_3) then (some (([] : List UInt8), (1 : Int))) else (bif ((((row.length : Nat) : Int).tmod (8 : Int)) != (0 : Int)) then (some (([] : List UInt8), (4 : Int))) else (bif (decide (0 ≤ (IntKind.wrap .i64 (((row.length : Nat) : Int).tdiv (8 : Int))) ∧ (IntKind.wrap .i64 (((row.length : Nat) : Int).tdiv (8 : Int))) ≤ 17179869184)) then (loopF (F34_l7 n row) n ((0 : Int), (List.replicate (IntKind.wrap .i64 (((row.length : Nat) : Int).tdiv (8 : Int))).toNat (0 : Int)))) else none)))) = some r := h
  refine TS.seq ?_
  have hq : (True) ∧ ((True) ∧ (True)) := ⟨trivial, ⟨trivial, trivial⟩⟩
  refine TS.reg [] ?_ ?_
  · apply prop_of ?_ hq
    kernel_rfl
  refine XS.then ?_
  refine TS.seq ?_
  refine TS.seq ?_
  obtain ⟨y_3, hx1, h⟩ := bind_some' h
  have hq : (True) ∧ ((PureC Try.prog 43 [(.str row), (.str ([48, 49] : List UInt8))] (.bool y_3) []) ∧ ((True) ∧ (True))) := ⟨trivial, ⟨F43_ok n row ([48, 49] : List UInt8) y_3 hx1, ⟨trivial, trivial⟩⟩⟩
  refine TS.reg [.none, (.call (.bool y_3) [])] ?_ ?_
  · apply prop_of ?_ hq
    kernel_rfl
  refine XS.then ?_
  rcases bif_some h with ⟨c2, h⟩ | ⟨c3, h⟩
  · refine TS.cond (!y_3) ?_ (fun hcz => ?_) (fun hcz => by rw [c2] at hcz; cases hcz)
    · kernel_rfl
    refine TS.seq ?_
    have hq : (True) ∧ ((True) ∧ (True)) := ⟨trivial, ⟨trivial, trivial⟩⟩
    refine TS.reg [] ?_ ?_
    · apply prop_of ?_ hq
      kernel_rfl
    refine XS.then ?_
    refine TS.ret ?_
    refine XS.passR ?_
    obtain rfl : (([] : List UInt8), (1 : Int)) = r := Option.some.inj h
    exact XS.fin [] ((True) ∧ ((True) ∧ (True))) (by kernel_rfl) ⟨trivial, ⟨trivial, trivial⟩⟩
  · refine TS.cond (!y_3) ?_ (fun hcz => by rw [c3] at hcz; cases hcz) (fun hcz => ?_)
    · kernel_rfl
    refine TS.skip ?_
    refine XS.then ?_
    refine TS.seq ?_
    refine TS.seq ?_
    have hq : (True) ∧ ((True) ∧ (((8 : Int) ≠ 0) ∧ ((True) ∧ (True)))) := ⟨trivial, ⟨trivial, ⟨by decide, ⟨trivial, trivial⟩⟩⟩⟩
    refine TS.reg [] ?_ ?_
    · apply prop_of ?_ hq
      kernel_rfl
    refine XS.then ?_
    rcases bif_some h with ⟨c4, h⟩ | ⟨c5, h⟩
    · refine TS.cond ((((row.length : Nat) : Int).tmod (8 : Int)) != (0 : Int)) ?_ (fun hcz => ?_) (fun hcz => by rw [c4] at hcz; cases hcz)
      · kernel_rfl
      refine TS.seq ?_
      have hq : (True) ∧ ((True) ∧ (True)) := ⟨trivial, ⟨trivial, trivial⟩⟩
      refine TS.reg [] ?_ ?_
      · apply prop_of ?_ hq
        kernel_rfl
      refine XS.then ?_
      refine TS.ret ?_
      refine XS.passR ?_
      obtain rfl : (([] : List UInt8), (4 : Int)) = r := Option.some.inj h
      exact XS.fin [] ((True) ∧ ((True) ∧ (True))) (by kernel_rfl) ⟨trivial, ⟨trivial, trivial⟩⟩
    · refine TS.cond ((((row.length : Nat) : Int).tmod (8 : Int)) != (0 : Int)) ?_ (fun hcz => by rw [c5] at hcz; cases hcz) (fun hcz => ?_)
      · kernel_rfl
      refine TS.skip ?_
      refine XS.then ?_
      refine TS.seq ?_
      obtain ⟨t6, h⟩ := test_some h
      have hq : (True) ∧ ((True) ∧ (((8 : Int) ≠ 0) ∧ (((IntKind.wrap .i64 (((row.length : Nat) : Int).tdiv (8 : Int))) = (IntKind.wrap .i64 (((row.length : Nat) : Int).tdiv (8 : Int))) ∧ (0 ≤ (IntKind.wrap .i64 (((row.length : Nat) : Int).tdiv (8 : Int))) ∧ (IntKind.wrap .i64 (((row.length : Nat) : Int).tdiv (8 : Int))) ≤ 17179869184)) ∧ ((True) ∧ (True))))) := ⟨trivial, ⟨trivial, ⟨by decide, ⟨⟨rfl, of_decide_eq_true t6⟩, ⟨trivial, trivial⟩⟩⟩⟩⟩
      refine TS.reg [] ?_ ?_
      · apply prop_of ?_ hq
        kernel_rfl
      refine XS.then ?_
      refine TS.seq ?_
      refine TS.seq ?_
      have hq : (True) ∧ ((True) ∧ ((True) ∧ (True))) := ⟨trivial, ⟨trivial, ⟨trivial, trivial⟩⟩⟩
      refine TS.reg [] ?_ ?_
      · apply prop_of ?_ hq
        kernel_rfl
      refine XS.then ?_
      refine TS.block ?_
      refine TS.reLoop [0] (mkMask 47 [0, 4, 20, 21]) (D := Int × (List Int)) (fun d => match d with | (x, m0) => (mkTs 47 [(0, (.str row)), (4, (.row 0)), (20, (.int .i64 (((List.replicate (IntKind.wrap .i64 (((row.length : Nat) : Int).tdiv (8 : Int))).toNat (0 : Int)).length : Nat) : Int))), (21, (.int .i64 x))], [(.row 5 (.int .u8) m0)])) (fun n' d => loopF (F34_l7 n row) n' d = some r) n ((0 : Int), (List.replicate (IntKind.wrap .i64 (((row.length : Nat) : Int).tdiv (8 : Int))).toNat (0 : Int))) h ?_ (fun d => loopF_zero _ d r) ?_
      · kernel_rfl
      · rintro n7 ⟨x, m0⟩ h
        replace h : (bif (decide (x < (((List.replicate (IntKind.wrap .i64 (((row.length : Nat) : Int).tdiv (8 : Int))).toNat (0 : Int)).length : Nat) : Int))) then (loopF (F34_l8 n (loopF (F34_l7 n row) n7) row x m0) n ((0 : Int), (7 : Int))) else (some ((strOf m0), (0 : Int)))) = some r := h
        refine TS.seq ?_
        have hq : (True) ∧ (True) := ⟨trivial, trivial⟩
        refine TS.reg [] ?_ ?_
        · apply prop_of ?_ hq
          kernel_rfl
        refine XS.then ?_
        refine TS.seq ?_
        rcases bif_some h with ⟨c7, h⟩ | ⟨c8, h⟩
        · refine TS.cond (decide (x < (((List.replicate (IntKind.wrap .i64 (((row.length : Nat) : Int).tdiv (8 : Int))).toNat (0 : Int)).length : Nat) : Int))) ?_ (fun hcz => ?_) (fun hcz => by rw [c7] at hcz; cases hcz)
          · kernel_rfl
          refine TS.skip ?_
          refine XS.then ?_
          refine TS.seq ?_
          refine TS.block ?_
          refine TS.seq ?_
          have hq : (True) ∧ ((True) ∧ (True)) := ⟨trivial, ⟨trivial, trivial⟩⟩
          refine TS.reg [] ?_ ?_
          · apply prop_of ?_ hq
            kernel_rfl
          refine XS.then ?_
          refine TS.seq ?_
          have hq : (True) ∧ (True) := ⟨trivial, trivial⟩
          refine TS.reg [] ?_ ?_
          · apply prop_of ?_ hq
            kernel_rfl
          refine XS.then ?_
          refine TS.seq ?_
          refine TS.seq ?_
          have hq : (True) ∧ (True) := ⟨trivial, trivial⟩
          refine TS.reg [] ?_ ?_
          · apply prop_of ?_ hq
            kernel_rfl
          refine XS.then ?_
          refine TS.block ?_
          refine TS.reLoop [0] (mkMask 47 [0, 4, 5, 6, 7, 20, 21]) (D := Int × Int) (fun d => match d with | (vn, k) => (mkTs 47 [(0, (.str row)), (4, (.row 0)), (5, (.int .i64 x)), (6, (.int .i64 vn)), (7, (.int .i64 k)), (20, (.int .i64 (((List.replicate (IntKind.wrap .i64 (((row.length : Nat) : Int).tdiv (8 : Int))).toNat (0 : Int)).length : Nat) : Int))), (21, (.int .i64 x))], [(.row 5 (.int .u8) m0)])) (fun n' d => loopF (F34_l8 n (loopF (F34_l7 n row) n7) row x m0) n' d = some r) n ((0 : Int), (7 : Int)) h ?_ (fun d => loopF_zero _ d r) ?_
          · kernel_rfl
          · rintro n8 ⟨vn, k⟩ h
            replace h : (bif (decide (k ≥ (0 : Int))) then (bif inb (IntKind.wrap .i64 ((IntKind.wrap .i64 ((8 : Int) * x)) + k)) row.length then ((loopF (F34_l8 n (loopF (F34_l7 n row) n7) row x m0) n8) ((IntKind.wrap .i64 ((IntKind.wrap .i64 ((2 : Int) * vn)) + (IntKind.wrap .i64 ((IntKind.wrap .u8 ((((row.getD ((IntKind.wrap .i64 ((IntKind.wrap .i64 ((8 : Int) * x)) + k)).toNat) 0).toNat : Nat) : Int) - (48 : Int))))))), (IntKind.wrap .i64 (k - (1 : Int))))) else none) else (bif inb x m0.length then ((loopF (F34_l7 n row) n7) ((IntKind.wrap .i64 (x + (1 : Int))), (m0.set x.toNat (IntKind.wrap .u8 (vn))))) else none)) = some r := h
            refine TS.seq ?_
            refine TS.seq ?_
            have hq : (True) ∧ ((True) ∧ (True)) := ⟨trivial, ⟨trivial, trivial⟩⟩
            refine TS.reg [] ?_ ?_
            · apply prop_of ?_ hq
              kernel_rfl
            refine XS.then ?_
            rcases bif_some h with ⟨c9, h⟩ | ⟨c10, h⟩
            · refine TS.cond (decide (k ≥ (0 : Int))) ?_ (fun hcz => ?_) (fun hcz => by rw [c9] at hcz; cases hcz)
              · kernel_rfl
              refine TS.skip ?_
              refine XS.then ?_
              refine TS.seq ?_
              refine TS.block ?_
              obtain ⟨t11, h⟩ := test_some h
              have hq : (True) ∧ ((True) ∧ ((True) ∧ ((True) ∧ ((True) ∧ ((True) ∧ ((True) ∧ ((inR (IntKind.wrap .i64 ((IntKind.wrap .i64 ((8 : Int) * x)) + k)) row.length) ∧ ((True) ∧ ((True) ∧ ((True) ∧ ((True) ∧ (True)))))))))))) := ⟨trivial, ⟨trivial, ⟨trivial, ⟨trivial, ⟨trivial, ⟨trivial, ⟨trivial, ⟨inb_ok t11, ⟨trivial, ⟨trivial, ⟨trivial, ⟨trivial, trivial⟩⟩⟩⟩⟩⟩⟩⟩⟩⟩⟩⟩
              refine TS.reg [] ?_ ?_
              · apply prop_of ?_ hq
                kernel_rfl
              refine XS.blockEnd ?_
              refine XS.then ?_
              have hq : (True) ∧ ((True) ∧ ((True) ∧ (True))) := ⟨trivial, ⟨trivial, ⟨trivial, trivial⟩⟩⟩
              refine TS.reg [] ?_ ?_
              · apply prop_of ?_ hq
                kernel_rfl
              refine XS.reAny [0] (mkMask 47 [0, 4, 5, 6, 7, 20, 21]) ((IntKind.wrap .i64 ((IntKind.wrap .i64 ((2 : Int) * vn)) + (IntKind.wrap .i64 ((IntKind.wrap .u8 ((((row.getD ((IntKind.wrap .i64 ((IntKind.wrap .i64 ((8 : Int) * x)) + k)).toNat) 0).toNat : Nat) : Int) - (48 : Int))))))), (IntKind.wrap .i64 (k - (1 : Int)))) h ?_
              kernel_rfl
            · refine TS.cond (decide (k ≥ (0 : Int))) ?_ (fun hcz => by rw [c10] at hcz; cases hcz) (fun hcz => ?_)
              · kernel_rfl
              refine TS.exit ?_
              refine XS.passE ?_
              refine XS.passE ?_
              refine XS.out ?_
              refine XS.then ?_
              obtain ⟨t12, h⟩ := test_some h
              have hq : (True) ∧ ((True) ∧ ((True) ∧ ((True) ∧ ((inR x m0.length) ∧ (((x.toNat < m0.length ∧ (True)) ∧ m0.length = m0.length) ∧ (True)))))) := ⟨trivial, ⟨trivial, ⟨trivial, ⟨trivial, ⟨inb_ok t12, ⟨⟨⟨inR_lt (inb_ok t12), trivial⟩, rfl⟩, trivial⟩⟩⟩⟩⟩⟩
              refine TS.reg [] ?_ ?_
              · apply prop_of ?_ hq
                kernel_rfl
              refine XS.blockEnd ?_
              refine XS.then ?_
              have hq : (True) ∧ ((True) ∧ (True)) := ⟨trivial, ⟨trivial, trivial⟩⟩
              refine TS.reg [] ?_ ?_
              · apply prop_of ?_ hq
                kernel_rfl
              refine XS.reAny [0] (mkMask 47 [0, 4, 20, 21]) ((IntKind.wrap .i64 (x + (1 : Int))), (m0.set x.toNat (IntKind.wrap .u8 (vn)))) h ?_
              kernel_rfl
        · refine TS.cond (decide (x < (((List.replicate (IntKind.wrap .i64 (((row.length : Nat) : Int).tdiv (8 : Int))).toNat (0 : Int)).length : Nat) : Int))) ?_ (fun hcz => by rw [c8] at hcz; cases hcz) (fun hcz => ?_)
          · kernel_rfl
          refine TS.exit ?_
          refine XS.passE ?_
          refine XS.passE ?_
          refine XS.out ?_
          refine XS.then ?_
          refine TS.seq ?_
          have hq : (True) ∧ ((True) ∧ ((True) ∧ ((True) ∧ (True)))) := ⟨trivial, ⟨trivial, ⟨trivial, ⟨trivial, trivial⟩⟩⟩⟩
          refine TS.reg [] ?_ ?_
          · apply prop_of ?_ hq
            kernel_rfl
          refine XS.then ?_
          refine TS.ret ?_
          obtain rfl : ((strOf m0), (0 : Int)) = r := Option.some.inj h
          exact XS.fin [] ((True) ∧ ((True) ∧ (True))) (by kernel_rfl) ⟨trivial, ⟨trivial, trivial⟩⟩

/-! plugtree/plugref.FieldSet -/
def F15_l4 (n : Nat) (f_At : Int) (f_Bits : Int) (y_5 : List UInt8) (k15_4 : ((List UInt8) × Int) → Option ((List UInt8) × Int)) : ((List UInt8) × Int) → Option ((List UInt8) × Int)
  | (part, left) => (bif (decide (((part.length : Nat) : Int) < f_Bits)) then (bif subB (([48, 49] : List UInt8).length) (some (left.tmod (2 : Int))) (some (IntKind.wrap .i64 ((left.tmod (2 : Int)) + (1 : Int)))) then (bif (decide (part.length + ((([48, 49] : List UInt8).take (IntKind.wrap .i64 ((left.tmod (2 : Int)) + (1 : Int))).toNat).drop (left.tmod (2 : Int)).toNat).length ≤ 9223372036854775807)) then (k15_4 ((part ++ ((([48, 49] : List UInt8).take (IntKind.wrap .i64 ((left.tmod (2 : Int)) + (1 : Int))).toNat).drop (left.tmod (2 : Int)).toNat)), (IntKind.wrap .i64 (left.tdiv (2 : Int))))) else none) else none) else (bif subB y_5.length none (some f_At) then (bif (decide ((y_5.take f_At.toNat).length + part.length ≤ 9223372036854775807)) then (bif subB y_5.length (some (IntKind.wrap .i64 (f_At + f_Bits))) none then (bif (decide (((y_5.take f_At.toNat) ++ part).length + (y_5.drop (IntKind.wrap .i64 (f_At + f_Bits)).toNat).length ≤ 9223372036854775807)) then ((F34 n (((y_5.take f_At.toNat) ++ part) ++ (y_5.drop (IntKind.wrap .i64 (f_At + f_Bits)).toNat))).bind fun y_6 => (some (y_6.1, (0 : Int)))) else none) else none) else none) else none))
def F15_j3 (n : Nat) (f_At : Int) (f_Bits : Int) (bits : List UInt8) (value : Int) (y_4 : Int) : Bool → Option ((List UInt8) × Int)
  | x => (bif x then (some (([] : List UInt8), (4 : Int))) else ((F31 n bits).bind fun y_5 => (bif (y_4 != 0) then (loopF (F15_l4 n f_At f_Bits y_5) n (([] : List UInt8), ((IntKind.wrap .i64 (value + y_4)).tmod y_4))) else none)))
def F15 (n : Nat) (f_At : Int) (f_Bits : Int) (f_Page : Int) (f_Usage : Int) (f_Min : Int) (f_Max : Int) (f_Pad : Bool) (bits : List UInt8) (value : Int) : Option ((List UInt8) × Int) := ((F30 n f_At f_Bits f_Page f_Usage f_Min f_Max f_Pad bits).bind fun y_3 => (bif (y_3 != (0 : Int)) then (some (([] : List UInt8), y_3)) else ((F32 n f_Bits).bind fun y_4 => (bif (decide (f_Min < (0 : Int))) then ((F33 n value (IntKind.wrap .i64 ((IntKind.wrap .i64 (0 - y_4)).tdiv (2 : Int))) (IntKind.wrap .i64 ((IntKind.wrap .i64 (y_4.tdiv (2 : Int))) - (1 : Int)))).bind fun y_7 => (bif (!y_7) then (F15_j3 n f_At f_Bits bits value y_4 true) else (bif (decide (f_Min ≥ (0 : Int))) then ((F33 n value (0 : Int) (IntKind.wrap .i64 (y_4 - (1 : Int)))).bind fun y_8 => (F15_j3 n f_At f_Bits bits value y_4 (!y_8))) else (F15_j3 n f_At f_Bits bits value y_4 false)))) else (bif (decide (f_Min ≥ (0 : Int))) then ((F33 n value (0 : Int) (IntKind.wrap .i64 (y_4 - (1 : Int)))).bind fun y_9 => (F15_j3 n f_At f_Bits bits value y_4 (!y_9))) else (F15_j3 n f_At f_Bits bits value y_4 false))))))
theorem F15_ok (n : Nat) (f_At : Int) (f_Bits : Int) (f_Page : Int) (f_Usage : Int) (f_Min : Int) (f_Max : Int) (f_Pad : Bool) (bits : List UInt8) (value : Int) (r : (List UInt8) × Int) (h : F15 n f_At f_Bits f_Page f_Usage f_Min f_Max f_Pad bits value = some r) : PureC Try.prog 15 [(.st (.cons (.int .i64 f_At) (.cons (.int .i64 f_Bits) (.cons (.int .i64 f_Page) (.cons (.int .i64 f_Usage) (.cons (.int .i64 f_Min) (.cons (.int .i64 f_Max) (.bool f_Pad)))))))), (.str bits), (.int .i64 value)] (.tup (.cons (.str r.1) (.cons (.int .i64 r.2) .nil))) [] := by
  refine PureC.mkS Try.func15 rfl rfl ?_
  intro w0 fz0 hfz
  replace h : ((F30 n f_At f_Bits f_Page f_Usage f_Min f_Max f_Pad bits).bind fun y_3 => (bif (y_3 != (0 : Int)) then (some (([] : List UInt8), y_3)) else ((F32 n f_Bits).bind fun y_4 => (bif (decide (f_Min < (0 : Int))) then ((F33 n value (IntKind.wrap .i64 ((IntKind.wrap .i64 (0 - y_4)).tdiv (2 : Int))) (IntKind.wrap .i64 ((IntKind.wrap .i64 (y_4.tdiv (2 : Int))) - (1 : Int)))).bind fun y_7 => (bif (!y_7) then (F15_j3 n f_At f_Bits bits value y_4 true) else (bif (decide (f_Min ≥ (0 : Int))) then ((F33 n value (0 : Int) (IntKind.wrap .i64 (y_4 - (1 : Int)))).bind fun y_8 => (F15_j3 n f_At f_Bits bits value y_4 (!y_8))) else (F15_j3 n f_At f_Bits bits value y_4 false)))) else (bif (decide (f_Min ≥ (0 : Int))) then ((F33 n value (0 : Int) (IntKind.wrap .i64 (y_4 - (1 : Int)))).bind fun y_9 => (F15_j3 n f_At f_Bits bits value y_4 (!y_9))) else (F15_j3 n f_At f_Bits bits value y_4 false)))))) = some r := h
  refine TS.seq ?_
  have hq : (True) ∧ ((True) ∧ ((True) ∧ (True))) := ⟨trivial, ⟨trivial, ⟨trivial, trivial⟩⟩⟩
  refine TS.reg [] ?_ ?_
  · apply prop_of ?_ hq
    kernel_rfl
  refine XS.then ?_
  refine TS.seq ?_
  refine TS.seq ?_
  obtain ⟨y_3, hx1, h⟩ := bind_some' h
  have hq : (True) ∧ ((True) ∧ ((PureC Try.prog 30 [(.st (.cons (.int .i64 f_At) (.cons (.int .i64 f_Bits) (.cons (.int .i64 f_Page) (.cons (.int .i64 f_Usage) (.cons (.int .i64 f_Min) (.cons (.int .i64 f_Max) (.bool f_Pad)))))))), (.str bits)] (.int .i64 y_3) []) ∧ ((True) ∧ (True)))) := ⟨trivial, ⟨trivial, ⟨F30_ok n f_At f_Bits f_Page f_Usage f_Min f_Max f_Pad bits y_3 hx1, ⟨trivial, trivial⟩⟩⟩⟩
  refine TS.reg [.none, .none, (.call (.int .i64 y_3) [])] ?_ ?_
  · apply prop_of ?_ hq
    kernel_rfl
  refine XS.then ?_
  refine TS.seq ?_
  have hq : (True) ∧ ((True) ∧ (True)) := ⟨trivial, ⟨trivial, trivial⟩⟩
  refine TS.reg [] ?_ ?_
  · apply prop_of ?_ hq
    kernel_rfl
  refine XS.then ?_
  rcases bif_some h with ⟨c2, h⟩ | ⟨c3, h⟩
  · refine TS.cond (y_3 != (0 : Int)) ?_ (fun hcz => ?_) (fun hcz => by rw [c2] at hcz; cases hcz)
    · kernel_rfl
    refine TS.seq ?_
    have hq : (True) ∧ ((True) ∧ ((True) ∧ (True))) := ⟨trivial, ⟨trivial, ⟨trivial, trivial⟩⟩⟩
    refine TS.reg [] ?_ ?_
    · apply prop_of ?_ hq
      kernel_rfl
    refine XS.then ?_
    refine TS.ret ?_
    refine XS.passR ?_
    obtain rfl : (([] : List UInt8), y_3) = r := Option.some.inj h
    exact XS.fin [] ((True) ∧ ((True) ∧ (True))) (by kernel_rfl) ⟨trivial, ⟨trivial, trivial⟩⟩
  · refine TS.cond (y_3 != (0 : Int)) ?_ (fun hcz => by rw [c3] at hcz; cases hcz) (fun hcz => ?_)
    · kernel_rfl
    refine TS.skip ?_
    refine XS.then ?_
    refine TS.seq ?_
    obtain ⟨y_4, hx4, h⟩ := bind_some' h
    have hq : (True) ∧ ((True) ∧ ((PureC Try.prog 32 [(.int .i64 f_Bits)] (.int .i64 y_4) []) ∧ ((True) ∧ (True)))) := ⟨trivial, ⟨trivial, ⟨F32_ok n f_Bits y_4 hx4, ⟨trivial, trivial⟩⟩⟩⟩
    refine TS.reg [.none, .none, (.call (.int .i64 y_4) [])] ?_ ?_
    · apply prop_of ?_ hq
      kernel_rfl
    refine XS.then ?_
    refine TS.seq ?_
    refine TS.seq ?_
    refine TS.cut (D := Bool) (fun d => match d with | x => (mkTs 91 [(1, (.str bits)), (2, (.int .i64 value)), (3, (.ptr 0 [])), (9, (.int .i64 y_4)), (49, (.bool x))], [(.box 27 (.st (.cons (.int .i64 f_At) (.cons (.int .i64 f_Bits) (.cons (.int .i64 f_Page) (.cons (.int .i64 f_Usage) (.cons (.int .i64 f_Min) (.cons (.int .i64 f_Max) (.bool f_Pad)))))))))])) (fun d => F15_j3 n f_At f_Bits bits value y_4 d = some r) ?_ ?_
    · rintro x h
      replace h : (bif x then (some (([] : List UInt8), (4 : Int))) else ((F31 n bits).bind fun y_5 => (bif (y_4 != 0) then (loopF (F15_l4 n f_At f_Bits y_5) n (([] : List UInt8), ((IntKind.wrap .i64 (value + y_4)).tmod y_4))) else none))) = some r := h
      refine XS.then ?_
      rcases bif_some h with ⟨c5, h⟩ | ⟨c6, h⟩
      · refine TS.cond x ?_ (fun hcz => ?_) (fun hcz => by rw [c5] at hcz; cases hcz)
        · kernel_rfl
        refine TS.seq ?_
        have hq : (True) ∧ ((True) ∧ (True)) := ⟨trivial, ⟨trivial, trivial⟩⟩
        refine TS.reg [] ?_ ?_
        · apply prop_of ?_ hq
          kernel_rfl
        refine XS.then ?_
        refine TS.ret ?_
        refine XS.passR ?_
        obtain rfl : (([] : List UInt8), (4 : Int)) = r := Option.some.inj h
        exact XS.fin [] ((True) ∧ ((True) ∧ (True))) (by kernel_rfl) ⟨trivial, ⟨trivial, trivial⟩⟩
      · refine TS.cond x ?_ (fun hcz => by rw [c6] at hcz; cases hcz) (fun hcz => ?_)
        · kernel_rfl
        refine TS.skip ?_
        refine XS.then ?_
        refine TS.seq ?_
        obtain ⟨y_5, hx7, h⟩ := bind_some' h
        have hq : (True) ∧ ((PureC Try.prog 31 [(.str bits)] (.str y_5) []) ∧ ((True) ∧ (True))) := ⟨trivial, ⟨F31_ok n bits y_5 hx7, ⟨trivial, trivial⟩⟩⟩
        refine TS.reg [.none, (.call (.str y_5) [])] ?_ ?_
        · apply prop_of ?_ hq
          kernel_rfl
        refine XS.then ?_
        refine TS.seq ?_
        have hq : (True) ∧ (True) := ⟨trivial, trivial⟩
        refine TS.reg [] ?_ ?_
        · apply prop_of ?_ hq
          kernel_rfl
        refine XS.then ?_
        refine TS.seq ?_
        refine TS.seq ?_
        obtain ⟨t8, h⟩ := test_some h
        have hq : (True) ∧ ((True) ∧ ((True) ∧ ((True) ∧ ((y_4 ≠ 0) ∧ ((True) ∧ (True)))))) := ⟨trivial, ⟨trivial, ⟨trivial, ⟨trivial, ⟨bne_ok t8, ⟨trivial, trivial⟩⟩⟩⟩⟩⟩
        refine TS.reg [] ?_ ?_
        · apply prop_of ?_ hq
          kernel_rfl
        refine XS.then ?_
        refine TS.block ?_
        refine TS.reLoop [0] (mkMask 91 [3, 10, 11, 12]) (D := (List UInt8) × Int) (fun d => match d with | (part, left) => (mkTs 91 [(3, (.ptr 0 [])), (10, (.str y_5)), (11, (.str part)), (12, (.int .i64 left))], [(.box 27 (.st (.cons (.int .i64 f_At) (.cons (.int .i64 f_Bits) (.cons (.int .i64 f_Page) (.cons (.int .i64 f_Usage) (.cons (.int .i64 f_Min) (.cons (.int .i64 f_Max) (.bool f_Pad)))))))))])) (fun n' d => loopF (F15_l4 n f_At f_Bits y_5) n' d = some r) n (([] : List UInt8), ((IntKind.wrap .i64 (value + y_4)).tmod y_4)) h ?_ (fun d => loopF_zero _ d r) ?_
        · kernel_rfl
        · rintro n4 ⟨part, left⟩ h
          replace h : (bif (decide (((part.length : Nat) : Int) < f_Bits)) then (bif subB (([48, 49] : List UInt8).length) (some (left.tmod (2 : Int))) (some (IntKind.wrap .i64 ((left.tmod (2 : Int)) + (1 : Int)))) then (bif (decide (part.length + ((([48, 49] : List UInt8).take (IntKind.wrap .i64 ((left.tmod (2 : Int)) + (1 : Int))).toNat).drop (left.tmod (2 : Int)).toNat).length ≤ 9223372036854775807)) then ((loopF (F15_l4 n f_At f_Bits y_5) n4) ((part ++ ((([48, 49] : List UInt8).take (IntKind.wrap .i64 ((left.tmod (2 : Int)) + (1 : Int))).toNat).drop (left.tmod (2 : Int)).toNat)), (IntKind.wrap .i64 (left.tdiv (2 : Int))))) else none) else none) else (bif subB y_5.length none (some f_At) then (bif (decide ((y_5.take f_At.toNat).length + part.length ≤ 9223372036854775807)) then (bif subB y_5.length (some (IntKind.wrap .i64 (f_At + f_Bits))) none then (bif (decide (((y_5.take f_At.toNat) ++ part).length + (y_5.drop (IntKind.wrap .i64 (f_At + f_Bits)).toNat).length ≤ 9223372036854775807)) then ((F34 n (((y_5.take f_At.toNat) ++ part) ++ (y_5.drop (IntKind.wrap .i64 (f_At + f_Bits)).toNat))).bind fun y_6 => (some (y_6.1, (0 : Int)))) else none) else none) else none) else none)) = some r := h
          refine TS.seq ?_
          refine TS.seq ?_
          have hq : (True) ∧ ((True) ∧ ((True) ∧ ((True) ∧ ((True) ∧ (True))))) := ⟨trivial, ⟨trivial, ⟨trivial, ⟨trivial, ⟨trivial, trivial⟩⟩⟩⟩⟩
          refine TS.reg [] ?_ ?_
          · apply prop_of ?_ hq
            kernel_rfl
          refine XS.then ?_
          rcases bif_some h with ⟨c9, h⟩ | ⟨c10, h⟩
          · refine TS.cond (decide (((part.length : Nat) : Int) < f_Bits)) ?_ (fun hcz => ?_) (fun hcz => by rw [c9] at hcz; cases hcz)
            · kernel_rfl
            refine TS.skip ?_
            refine XS.then ?_
            refine TS.seq ?_
            refine TS.block ?_
            obtain ⟨t11, h⟩ := test_some h
            obtain ⟨t12, h⟩ := test_some h
            have hq : (True) ∧ ((True) ∧ (((2 : Int) ≠ 0) ∧ ((True) ∧ (((2 : Int) ≠ 0) ∧ ((True) ∧ ((subC ([48, 49] : List UInt8).length (some (left.tmod (2 : Int))) (some (IntKind.wrap .i64 ((left.tmod (2 : Int)) + (1 : Int))))) ∧ ((part.length + ((([48, 49] : List UInt8).take (IntKind.wrap .i64 ((left.tmod (2 : Int)) + (1 : Int))).toNat).drop (left.tmod (2 : Int)).toNat).length ≤ 9223372036854775807) ∧ ((True) ∧ (True))))))))) := ⟨trivial, ⟨trivial, ⟨by decide, ⟨trivial, ⟨by decide, ⟨trivial, ⟨subB_ok t11, ⟨of_decide_eq_true t12, ⟨trivial, trivial⟩⟩⟩⟩⟩⟩⟩⟩⟩
            refine TS.reg [] ?_ ?_
            · apply prop_of ?_ hq
              kernel_rfl
            refine XS.blockEnd ?_
            refine XS.then ?_
            have hq : (True) ∧ (((2 : Int) ≠ 0) ∧ ((True) ∧ (True))) := ⟨trivial, ⟨by decide, ⟨trivial, trivial⟩⟩⟩
            refine TS.reg [] ?_ ?_
            · apply prop_of ?_ hq
              kernel_rfl
            refine XS.reAny [0] (mkMask 91 [3, 10, 11, 12]) ((part ++ ((([48, 49] : List UInt8).take (IntKind.wrap .i64 ((left.tmod (2 : Int)) + (1 : Int))).toNat).drop (left.tmod (2 : Int)).toNat)), (IntKind.wrap .i64 (left.tdiv (2 : Int)))) h ?_
            kernel_rfl
          · refine TS.cond (decide (((part.length : Nat) : Int) < f_Bits)) ?_ (fun hcz => by rw [c10] at hcz; cases hcz) (fun hcz => ?_)
            · kernel_rfl
            refine TS.exit ?_
            refine XS.passE ?_
            refine XS.passE ?_
            refine XS.out ?_
            refine XS.then ?_
            refine TS.seq ?_
            obtain ⟨t13, h⟩ := test_some h
            obtain ⟨t14, h⟩ := test_some h
            obtain ⟨t15, h⟩ := test_some h
            obtain ⟨t16, h⟩ := test_some h
            obtain ⟨y_6, hx17, h⟩ := bind_some' h
            have hq : ((True) ∧ ((True) ∧ ((True) ∧ ((subC y_5.length none (some f_At)) ∧ ((True) ∧ (((y_5.take f_At.toNat).length + part.length ≤ 9223372036854775807) ∧ ((True) ∧ ((True) ∧ ((True) ∧ ((True) ∧ ((True) ∧ ((True) ∧ ((subC y_5.length (some (IntKind.wrap .i64 (f_At + f_Bits))) none) ∧ ((((y_5.take f_At.toNat) ++ part).length + (y_5.drop (IntKind.wrap .i64 (f_At + f_Bits)).toNat).length ≤ 9223372036854775807) ∧ ((PureC Try.prog 34 [(.str (((y_5.take f_At.toNat) ++ part) ++ (y_5.drop (IntKind.wrap .i64 (f_At + f_Bits)).toNat)))] (.tup (.cons (.str y_6.1) (.cons (.int .i64 y_6.2) .nil))) []) ∧ ((True) ∧ ((True) ∧ ((True) ∧ ((True) ∧ (True)))))))))))))))))))) ∧ ((True) ∧ (True)) := ⟨⟨trivial, ⟨trivial, ⟨trivial, ⟨subB_ok t13, ⟨trivial, ⟨of_decide_eq_true t14, ⟨trivial, ⟨trivial, ⟨trivial, ⟨trivial, ⟨trivial, ⟨trivial, ⟨subB_ok t15, ⟨of_decide_eq_true t16, ⟨F34_ok n (((y_5.take f_At.toNat) ++ part) ++ (y_5.drop (IntKind.wrap .i64 (f_At + f_Bits)).toNat)) y_6 hx17, ⟨trivial, ⟨trivial, ⟨trivial, ⟨trivial, trivial⟩⟩⟩⟩⟩⟩⟩⟩⟩⟩⟩⟩⟩⟩⟩⟩⟩⟩⟩, ⟨trivial, trivial⟩⟩
            refine TS.draw 19 [] [.none, .none, .none, .none, .none, .none, .none, .none, .none, .none, .none, .none, .none, .none, (.call (.tup (.cons (.str y_6.1) (.cons (.int .i64 y_6.2) .nil))) [])] (by kernel_rfl) ?_ ?_
            · apply prop_of ?_ hq
              kernel_rfl
            refine XS.then ?_
            refine TS.seq ?_
            have hq : (True) ∧ ((True) ∧ ((True) ∧ (True))) := ⟨trivial, ⟨trivial, ⟨trivial, trivial⟩⟩⟩
            refine TS.reg [] ?_ ?_
            · apply prop_of ?_ hq
              kernel_rfl
            refine XS.then ?_
            refine TS.ret ?_
            obtain rfl : (y_6.1, (0 : Int)) = r := Option.some.inj h
            exact XS.fin [] ((True) ∧ ((True) ∧ (True))) (by kernel_rfl) ⟨trivial, ⟨trivial, trivial⟩⟩
    · rcases bif_some h with ⟨c18, h⟩ | ⟨c19, h⟩
      · obtain ⟨y_7, hx20, h⟩ := bind_some' h
        rcases bif_some h with ⟨c21, h⟩ | ⟨c22, h⟩
        · have hq : (True) ∧ ((True) ∧ ((True) ∧ (((True) ∧ (decide (f_Min < (0 : Int))) = true) ∧ ((True) ∧ ((True) ∧ ((True) ∧ (((2 : Int) ≠ 0) ∧ ((True) ∧ (((2 : Int) ≠ 0) ∧ ((True) ∧ ((PureC Try.prog 33 [(.int .i64 value), (.int .i64 (IntKind.wrap .i64 ((IntKind.wrap .i64 (0 - y_4)).tdiv (2 : Int)))), (.int .i64 (IntKind.wrap .i64 ((IntKind.wrap .i64 (y_4.tdiv (2 : Int))) - (1 : Int))))] (.bool y_7) []) ∧ ((True) ∧ ((True) ∧ (((True) ∧ (!y_7) = true) ∧ ((True) ∧ (True)))))))))))))))) := ⟨trivial, ⟨trivial, ⟨trivial, ⟨⟨trivial, c18⟩, ⟨trivial, ⟨trivial, ⟨trivial, ⟨by decide, ⟨trivial, ⟨by decide, ⟨trivial, ⟨F33_ok n value (IntKind.wrap .i64 ((IntKind.wrap .i64 (0 - y_4)).tdiv (2 : Int))) (IntKind.wrap .i64 ((IntKind.wrap .i64 (y_4.tdiv (2 : Int))) - (1 : Int))) y_7 hx20, ⟨trivial, ⟨trivial, ⟨⟨trivial, c21⟩, ⟨trivial, trivial⟩⟩⟩⟩⟩⟩⟩⟩⟩⟩⟩⟩⟩⟩⟩⟩
          refine TS.reg [.none, .none, .none, .dec true, .none, .none, .none, .none, .none, .none, .none, (.call (.bool y_7) []), .none, .none, .dec true] ?_ ?_
          · apply prop_of ?_ hq
            kernel_rfl
          refine XS.reAny [0] (mkMask 91 [1, 2, 3, 9, 49]) true h ?_
          kernel_rfl
        · rcases bif_some h with ⟨c23, h⟩ | ⟨c24, h⟩
          · obtain ⟨y_8, hx25, h⟩ := bind_some' h
            have hq : (True) ∧ ((True) ∧ ((True) ∧ (((True) ∧ (decide (f_Min < (0 : Int))) = true) ∧ ((True) ∧ ((True) ∧ ((True) ∧ (((2 : Int) ≠ 0) ∧ ((True) ∧ (((2 : Int) ≠ 0) ∧ ((True) ∧ ((PureC Try.prog 33 [(.int .i64 value), (.int .i64 (IntKind.wrap .i64 ((IntKind.wrap .i64 (0 - y_4)).tdiv (2 : Int)))), (.int .i64 (IntKind.wrap .i64 ((IntKind.wrap .i64 (y_4.tdiv (2 : Int))) - (1 : Int))))] (.bool y_7) []) ∧ ((True) ∧ ((True) ∧ (((True) ∧ (!y_7) = false) ∧ ((True) ∧ ((True) ∧ ((True) ∧ (((True) ∧ (decide (f_Min ≥ (0 : Int))) = true) ∧ ((True) ∧ ((True) ∧ ((True) ∧ ((PureC Try.prog 33 [(.int .i64 value), (.int .i64 (0 : Int)), (.int .i64 (IntKind.wrap .i64 (y_4 - (1 : Int))))] (.bool y_8) []) ∧ ((True) ∧ ((True) ∧ ((True) ∧ (True)))))))))))))))))))))))))) := ⟨trivial, ⟨trivial, ⟨trivial, ⟨⟨trivial, c18⟩, ⟨trivial, ⟨trivial, ⟨trivial, ⟨by decide, ⟨trivial, ⟨by decide, ⟨trivial, ⟨F33_ok n value (IntKind.wrap .i64 ((IntKind.wrap .i64 (0 - y_4)).tdiv (2 : Int))) (IntKind.wrap .i64 ((IntKind.wrap .i64 (y_4.tdiv (2 : Int))) - (1 : Int))) y_7 hx20, ⟨trivial, ⟨trivial, ⟨⟨trivial, c22⟩, ⟨trivial, ⟨trivial, ⟨trivial, ⟨⟨trivial, c23⟩, ⟨trivial, ⟨trivial, ⟨trivial, ⟨F33_ok n value (0 : Int) (IntKind.wrap .i64 (y_4 - (1 : Int))) y_8 hx25, ⟨trivial, ⟨trivial, ⟨trivial, trivial⟩⟩⟩⟩⟩⟩⟩⟩⟩⟩⟩⟩⟩⟩⟩⟩⟩⟩⟩⟩⟩⟩⟩⟩⟩⟩
            refine TS.reg [.none, .none, .none, .dec true, .none, .none, .none, .none, .none, .none, .none, (.call (.bool y_7) []), .none, .none, .dec false, .none, .none, .none, .dec true, .none, .none, .none, (.call (.bool y_8) [])] ?_ ?_
            · apply prop_of ?_ hq
              kernel_rfl
            refine XS.reAny [0] (mkMask 91 [1, 2, 3, 9, 49]) (!y_8) h ?_
            kernel_rfl
          · have hq : (True) ∧ ((True) ∧ ((True) ∧ (((True) ∧ (decide (f_Min < (0 : Int))) = true) ∧ ((True) ∧ ((True) ∧ ((True) ∧ (((2 : Int) ≠ 0) ∧ ((True) ∧ (((2 : Int) ≠ 0) ∧ ((True) ∧ ((PureC Try.prog 33 [(.int .i64 value), (.int .i64 (IntKind.wrap .i64 ((IntKind.wrap .i64 (0 - y_4)).tdiv (2 : Int)))), (.int .i64 (IntKind.wrap .i64 ((IntKind.wrap .i64 (y_4.tdiv (2 : Int))) - (1 : Int))))] (.bool y_7) []) ∧ ((True) ∧ ((True) ∧ (((True) ∧ (!y_7) = false) ∧ ((True) ∧ ((True) ∧ ((True) ∧ (((True) ∧ (decide (f_Min ≥ (0 : Int))) = false) ∧ ((True) ∧ ((True) ∧ (True))))))))))))))))))))) := ⟨trivial, ⟨trivial, ⟨trivial, ⟨⟨trivial, c18⟩, ⟨trivial, ⟨trivial, ⟨trivial, ⟨by decide, ⟨trivial, ⟨by decide, ⟨trivial, ⟨F33_ok n value (IntKind.wrap .i64 ((IntKind.wrap .i64 (0 - y_4)).tdiv (2 : Int))) (IntKind.wrap .i64 ((IntKind.wrap .i64 (y_4.tdiv (2 : Int))) - (1 : Int))) y_7 hx20, ⟨trivial, ⟨trivial, ⟨⟨trivial, c22⟩, ⟨trivial, ⟨trivial, ⟨trivial, ⟨⟨trivial, c24⟩, ⟨trivial, ⟨trivial, trivial⟩⟩⟩⟩⟩⟩⟩⟩⟩⟩⟩⟩⟩⟩⟩⟩⟩⟩⟩⟩⟩
            refine TS.reg [.none, .none, .none, .dec true, .none, .none, .none, .none, .none, .none, .none, (.call (.bool y_7) []), .none, .none, .dec false, .none, .none, .none, .dec false] ?_ ?_
            · apply prop_of ?_ hq
              kernel_rfl
            refine XS.reAny [0] (mkMask 91 [1, 2, 3, 9, 49]) false h ?_
            kernel_rfl
      · rcases bif_some h with ⟨c26, h⟩ | ⟨c27, h⟩
        · obtain ⟨y_9, hx28, h⟩ := bind_some' h
          have hq : (True) ∧ ((True) ∧ ((True) ∧ (((True) ∧ (decide (f_Min < (0 : Int))) = false) ∧ ((True) ∧ ((True) ∧ ((True) ∧ ((True) ∧ ((True) ∧ (((True) ∧ (decide (f_Min ≥ (0 : Int))) = true) ∧ ((True) ∧ ((True) ∧ ((True) ∧ ((PureC Try.prog 33 [(.int .i64 value), (.int .i64 (0 : Int)), (.int .i64 (IntKind.wrap .i64 (y_4 - (1 : Int))))] (.bool y_9) []) ∧ ((True) ∧ ((True) ∧ ((True) ∧ (True))))))))))))))))) := ⟨trivial, ⟨trivial, ⟨trivial, ⟨⟨trivial, c19⟩, ⟨trivial, ⟨trivial, ⟨trivial, ⟨trivial, ⟨trivial, ⟨⟨trivial, c26⟩, ⟨trivial, ⟨trivial, ⟨trivial, ⟨F33_ok n value (0 : Int) (IntKind.wrap .i64 (y_4 - (1 : Int))) y_9 hx28, ⟨trivial, ⟨trivial, ⟨trivial, trivial⟩⟩⟩⟩⟩⟩⟩⟩⟩⟩⟩⟩⟩⟩⟩⟩⟩
          refine TS.reg [.none, .none, .none, .dec false, .none, .none, .none, .none, .none, .none, .none, .none, .none, .none, .none, .none, .none, .none, .dec true, .none, .none, .none, (.call (.bool y_9) [])] ?_ ?_
          · apply prop_of ?_ hq
            kernel_rfl
          refine XS.reAny [0] (mkMask 91 [1, 2, 3, 9, 49]) (!y_9) h ?_
          kernel_rfl
        · have hq : (True) ∧ ((True) ∧ ((True) ∧ (((True) ∧ (decide (f_Min < (0 : Int))) = false) ∧ ((True) ∧ ((True) ∧ ((True) ∧ ((True) ∧ ((True) ∧ (((True) ∧ (decide (f_Min ≥ (0 : Int))) = false) ∧ ((True) ∧ ((True) ∧ (True)))))))))))) := ⟨trivial, ⟨trivial, ⟨trivial, ⟨⟨trivial, c19⟩, ⟨trivial, ⟨trivial, ⟨trivial, ⟨trivial, ⟨trivial, ⟨⟨trivial, c27⟩, ⟨trivial, ⟨trivial, trivial⟩⟩⟩⟩⟩⟩⟩⟩⟩⟩⟩⟩
          refine TS.reg [.none, .none, .none, .dec false, .none, .none, .none, .none, .none, .none, .none, .none, .none, .none, .none, .none, .none, .none, .dec false] ?_ ?_
          · apply prop_of ?_ hq
            kernel_rfl
          refine XS.reAny [0] (mkMask 91 [1, 2, 3, 9, 49]) false h ?_
          kernel_rfl

/-! plugtree/pluglaw.ReportGets -/
def F5 (n : Nat) (vAt : Int) (vBits : Int) (vPage : Int) (vUsage : Int) (vMin : Int) (vMax : Int) (vPad : Bool) (bits : List UInt8) (value : Int) : Option Bool := ((F12 n vAt vBits vPage vUsage vMin vMax vPad bits).bind fun y_2 => ((F13 n vAt vBits vPage vUsage vMin vMax vPad bits).bind fun y_3 => ((F14 n vAt vBits vPage vUsage vMin vMax vPad bits value).bind fun y_4 => ((F15 n vAt vBits vPage vUsage vMin vMax vPad bits value).bind fun y_5 => (bif (y_2.1 == y_3.1) then (bif (y_2.2 == y_3.2) then (bif (y_4.1 == y_5.1) then (some (y_4.2 == y_5.2)) else (some false)) else (some false)) else (some false))))))
theorem F5_ok (n : Nat) (vAt : Int) (vBits : Int) (vPage : Int) (vUsage : Int) (vMin : Int) (vMax : Int) (vPad : Bool) (bits : List UInt8) (value : Int) (r : Bool) (h : F5 n vAt vBits vPage vUsage vMin vMax vPad bits value = some r) : PureC Try.prog 5 [(.st (.cons (.int .i64 vAt) (.cons (.int .i64 vBits) (.cons (.int .i64 vPage) (.cons (.int .i64 vUsage) (.cons (.int .i64 vMin) (.cons (.int .i64 vMax) (.bool vPad)))))))), (.str bits), (.int .i64 value)] (.bool r) [] := by
  refine PureC.mkS Try.func5 rfl rfl ?_
  intro w0 fz0 hfz
  replace h : ((F12 n vAt vBits vPage vUsage vMin vMax vPad bits).bind fun y_2 => ((F13 n vAt vBits vPage vUsage vMin vMax vPad bits).bind fun y_3 => ((F14 n vAt vBits vPage vUsage vMin vMax vPad bits value).bind fun y_4 => ((F15 n vAt vBits vPage vUsage vMin vMax vPad bits value).bind fun y_5 => (bif (y_2.1 == y_3.1) then (bif (y_2.2 == y_3.2) then (bif (y_4.1 == y_5.1) then (some (y_4.2 == y_5.2)) else (some false)) else (some false)) else (some false)))))) = some r := h
  refine TS.seq ?_
  have hq : (True) ∧ ((True) ∧ (True)) := ⟨trivial, ⟨trivial, trivial⟩⟩
  refine TS.reg [] ?_ ?_
  · apply prop_of ?_ hq
    kernel_rfl
  refine XS.then ?_
  refine TS.seq ?_
  obtain ⟨y_2, hx1, h⟩ := bind_some' h
  have hq : (True) ∧ ((True) ∧ ((PureC Try.prog 12 [(.st (.cons (.int .i64 vAt) (.cons (.int .i64 vBits) (.cons (.int .i64 vPage) (.cons (.int .i64 vUsage) (.cons (.int .i64 vMin) (.cons (.int .i64 vMax) (.bool vPad)))))))), (.str bits)] (.tup (.cons (.int .i64 y_2.1) (.cons (.int .i64 y_2.2) .nil))) []) ∧ ((True) ∧ ((True) ∧ ((True) ∧ ((True) ∧ ((True) ∧ (True)))))))) := ⟨trivial, ⟨trivial, ⟨F12_ok n vAt vBits vPage vUsage vMin vMax vPad bits y_2 hx1, ⟨trivial, ⟨trivial, ⟨trivial, ⟨trivial, ⟨trivial, trivial⟩⟩⟩⟩⟩⟩⟩⟩
  refine TS.reg [.none, .none, (.call (.tup (.cons (.int .i64 y_2.1) (.cons (.int .i64 y_2.2) .nil))) [])] ?_ ?_
  · apply prop_of ?_ hq
    kernel_rfl
  refine XS.then ?_
  refine TS.seq ?_
  obtain ⟨y_3, hx2, h⟩ := bind_some' h
  have hq : (True) ∧ ((True) ∧ ((PureC Try.prog 13 [(.st (.cons (.int .i64 vAt) (.cons (.int .i64 vBits) (.cons (.int .i64 vPage) (.cons (.int .i64 vUsage) (.cons (.int .i64 vMin) (.cons (.int .i64 vMax) (.bool vPad)))))))), (.str bits)] (.tup (.cons (.int .i64 y_3.1) (.cons (.int .i64 y_3.2) .nil))) []) ∧ ((True) ∧ ((True) ∧ ((True) ∧ ((True) ∧ ((True) ∧ (True)))))))) := ⟨trivial, ⟨trivial, ⟨F13_ok n vAt vBits vPage vUsage vMin vMax vPad bits y_3 hx2, ⟨trivial, ⟨trivial, ⟨trivial, ⟨trivial, ⟨trivial, trivial⟩⟩⟩⟩⟩⟩⟩⟩
  refine TS.reg [.none, .none, (.call (.tup (.cons (.int .i64 y_3.1) (.cons (.int .i64 y_3.2) .nil))) [])] ?_ ?_
  · apply prop_of ?_ hq
    kernel_rfl
  refine XS.then ?_
  refine TS.seq ?_
  obtain ⟨y_4, hx3, h⟩ := bind_some' h
  have hq : (True) ∧ ((True) ∧ ((True) ∧ ((PureC Try.prog 14 [(.st (.cons (.int .i64 vAt) (.cons (.int .i64 vBits) (.cons (.int .i64 vPage) (.cons (.int .i64 vUsage) (.cons (.int .i64 vMin) (.cons (.int .i64 vMax) (.bool vPad)))))))), (.str bits), (.int .i64 value)] (.tup (.cons (.str y_4.1) (.cons (.int .i64 y_4.2) .nil))) []) ∧ ((True) ∧ ((True) ∧ ((True) ∧ ((True) ∧ ((True) ∧ (True))))))))) := ⟨trivial, ⟨trivial, ⟨trivial, ⟨F14_ok n vAt vBits vPage vUsage vMin vMax vPad bits value y_4 hx3, ⟨trivial, ⟨trivial, ⟨trivial, ⟨trivial, ⟨trivial, trivial⟩⟩⟩⟩⟩⟩⟩⟩⟩
  refine TS.reg [.none, .none, .none, (.call (.tup (.cons (.str y_4.1) (.cons (.int .i64 y_4.2) .nil))) [])] ?_ ?_
  · apply prop_of ?_ hq
    kernel_rfl
  refine XS.then ?_
  refine TS.seq ?_
  obtain ⟨y_5, hx4, h⟩ := bind_some' h
  have hq : (True) ∧ ((True) ∧ ((True) ∧ ((PureC Try.prog 15 [(.st (.cons (.int .i64 vAt) (.cons (.int .i64 vBits) (.cons (.int .i64 vPage) (.cons (.int .i64 vUsage) (.cons (.int .i64 vMin) (.cons (.int .i64 vMax) (.bool vPad)))))))), (.str bits), (.int .i64 value)] (.tup (.cons (.str y_5.1) (.cons (.int .i64 y_5.2) .nil))) []) ∧ ((True) ∧ ((True) ∧ ((True) ∧ ((True) ∧ ((True) ∧ (True))))))))) := ⟨trivial, ⟨trivial, ⟨trivial, ⟨F15_ok n vAt vBits vPage vUsage vMin vMax vPad bits value y_5 hx4, ⟨trivial, ⟨trivial, ⟨trivial, ⟨trivial, ⟨trivial, trivial⟩⟩⟩⟩⟩⟩⟩⟩⟩
  refine TS.reg [.none, .none, .none, (.call (.tup (.cons (.str y_5.1) (.cons (.int .i64 y_5.2) .nil))) [])] ?_ ?_
  · apply prop_of ?_ hq
    kernel_rfl
  refine XS.then ?_
  refine TS.seq ?_
  rcases bif_some h with ⟨c5, h⟩ | ⟨c6, h⟩
  · rcases bif_some h with ⟨c7, h⟩ | ⟨c8, h⟩
    · rcases bif_some h with ⟨c9, h⟩ | ⟨c10, h⟩
      · have hq : (True) ∧ ((True) ∧ ((True) ∧ (((True) ∧ (y_2.1 == y_3.1) = true) ∧ ((True) ∧ ((True) ∧ ((True) ∧ ((True) ∧ (((True) ∧ (y_2.2 == y_3.2) = true) ∧ ((True) ∧ ((True) ∧ ((True) ∧ ((True) ∧ (((True) ∧ (y_4.1 == y_5.1) = true) ∧ ((True) ∧ ((True) ∧ ((True) ∧ ((True) ∧ ((True) ∧ (True))))))))))))))))))) := ⟨trivial, ⟨trivial, ⟨trivial, ⟨⟨trivial, c5⟩, ⟨trivial, ⟨trivial, ⟨trivial, ⟨trivial, ⟨⟨trivial, c7⟩, ⟨trivial, ⟨trivial, ⟨trivial, ⟨trivial, ⟨⟨trivial, c9⟩, ⟨trivial, ⟨trivial, ⟨trivial, ⟨trivial, ⟨trivial, trivial⟩⟩⟩⟩⟩⟩⟩⟩⟩⟩⟩⟩⟩⟩⟩⟩⟩⟩⟩
        refine TS.reg [.none, .none, .none, .dec true, .none, .none, .none, .none, .dec true, .none, .none, .none, .none, .dec true] ?_ ?_
        · apply prop_of ?_ hq
          kernel_rfl
        refine XS.then ?_
        refine TS.ret ?_
        obtain rfl : (y_4.2 == y_5.2) = r := Option.some.inj h
        exact XS.fin [] ((True) ∧ (True)) (by kernel_rfl) ⟨trivial, trivial⟩
      · have hq : (True) ∧ ((True) ∧ ((True) ∧ (((True) ∧ (y_2.1 == y_3.1) = true) ∧ ((True) ∧ ((True) ∧ ((True) ∧ ((True) ∧ (((True) ∧ (y_2.2 == y_3.2) = true) ∧ ((True) ∧ ((True) ∧ ((True) ∧ ((True) ∧ (((True) ∧ (y_4.1 == y_5.1) = false) ∧ ((True) ∧ ((True) ∧ (True)))))))))))))))) := ⟨trivial, ⟨trivial, ⟨trivial, ⟨⟨trivial, c5⟩, ⟨trivial, ⟨trivial, ⟨trivial, ⟨trivial, ⟨⟨trivial, c7⟩, ⟨trivial, ⟨trivial, ⟨trivial, ⟨trivial, ⟨⟨trivial, c10⟩, ⟨trivial, ⟨trivial, trivial⟩⟩⟩⟩⟩⟩⟩⟩⟩⟩⟩⟩⟩⟩⟩⟩
        refine TS.reg [.none, .none, .none, .dec true, .none, .none, .none, .none, .dec true, .none, .none, .none, .none, .dec false] ?_ ?_
        · apply prop_of ?_ hq
          kernel_rfl
        refine XS.then ?_
        refine TS.ret ?_
        obtain rfl : false = r := Option.some.inj h
        exact XS.fin [] ((True) ∧ (True)) (by kernel_rfl) ⟨trivial, trivial⟩
    · have hq : (True) ∧ ((True) ∧ ((True) ∧ (((True) ∧ (y_2.1 == y_3.1) = true) ∧ ((True) ∧ ((True) ∧ ((True) ∧ ((True) ∧ (((True) ∧ (y_2.2 == y_3.2) = false) ∧ ((True) ∧ ((True) ∧ ((True) ∧ ((True) ∧ (True))))))))))))) := ⟨trivial, ⟨trivial, ⟨trivial, ⟨⟨trivial, c5⟩, ⟨trivial, ⟨trivial, ⟨trivial, ⟨trivial, ⟨⟨trivial, c8⟩, ⟨trivial, ⟨trivial, ⟨trivial, ⟨trivial, trivial⟩⟩⟩⟩⟩⟩⟩⟩⟩⟩⟩⟩⟩
      refine TS.reg [.none, .none, .none, .dec true, .none, .none, .none, .none, .dec false] ?_ ?_
      · apply prop_of ?_ hq
        kernel_rfl
      refine XS.then ?_
      refine TS.ret ?_
      obtain rfl : false = r := Option.some.inj h
      exact XS.fin [] ((True) ∧ (True)) (by kernel_rfl) ⟨trivial, trivial⟩
  · have hq : (True) ∧ ((True) ∧ ((True) ∧ (((True) ∧ (y_2.1 == y_3.1) = false) ∧ ((True) ∧ ((True) ∧ ((True) ∧ ((True) ∧ ((True) ∧ ((True) ∧ (True)))))))))) := ⟨trivial, ⟨trivial, ⟨trivial, ⟨⟨trivial, c6⟩, ⟨trivial, ⟨trivial, ⟨trivial, ⟨trivial, ⟨trivial, ⟨trivial, trivial⟩⟩⟩⟩⟩⟩⟩⟩⟩⟩
    refine TS.reg [.none, .none, .none, .dec false] ?_ ?_
    · apply prop_of ?_ hq
      kernel_rfl
    refine XS.then ?_
    refine TS.ret ?_
    obtain rfl : false = r := Option.some.inj h
    exact XS.fin [] ((True) ∧ (True)) (by kernel_rfl) ⟨trivial, trivial⟩
end Go.Proofs.Ytcdighmioekeiaa
