/- Functions of the program, as functions of values. -/
import Derived.Test.YtmcjcioifgaihaaAm28
import Derived.Test.YtmcjcioifgaihaaShelf
import Derived.Test.YtmcjcioifgaihaaChecked
namespace Go.Proofs.Ytmcjcioifgaihaa
open Go Go.RowKit
set_option linter.unusedVariables false
set_option maxRecDepth 100000

/-! strings.Repeat -/
def F41 (n : Nat) (s : List UInt8) (count : Int) : Option (List UInt8) := bif decide (0 ≤ count ∧ (s.length : Int) * count ≤ 140737488355328 ∧ count ≤ 9223372036854775807) then some (Lib.repeatL s (count).toNat) else none
theorem F41_ok (n : Nat) (s : List UInt8) (count : Int) (r : List UInt8) (h : F41 n s count = some r) : PureC Try.prog 41 [(.str s), (.int .i64 count)] (.str r) [] := by
  unfold F41 at h
  obtain ⟨c, h⟩ := test_some h
  obtain rfl := Option.some.inj h
  exact PureC.repeat s count (of_decide_eq_true c) Try.strings_Repeat

/-! math/bits.Mul32 -/
def F156 (n : Nat) (x : Int) (y : Int) : Option (Int × Int) := (some ((IntKind.wrap .u32 ((shrI .u64 (IntKind.wrap .u64 ((IntKind.wrap .u64 (x)) * (IntKind.wrap .u64 (y)))) (32 : Int)))), (IntKind.wrap .u32 ((IntKind.wrap .u64 ((IntKind.wrap .u64 (x)) * (IntKind.wrap .u64 (y))))))))
theorem F156_ok (n : Nat) (x : Int) (y : Int) (r : Int × Int) (h : F156 n x y = some r) : PureC Try.prog 156 [(.int .u32 x), (.int .u32 y)] (.tup (.cons (.int .u32 r.1) (.cons (.int .u32 r.2) .nil))) [] := by
  refine PureC.mkS Try.func156 rfl rfl ?_
  intro w0 fz0 hfz
  replace h : (some ((IntKind.wrap .u32 ((shrI .u64 (IntKind.wrap .u64 ((IntKind.wrap .u64 (x)) * (IntKind.wrap .u64 (y)))) (32 : Int)))), (IntKind.wrap .u32 ((IntKind.wrap .u64 ((IntKind.wrap .u64 (x)) * (IntKind.wrap .u64 (y)))))))) = some r := h
  refine TS.seq ?_
  have hq : (True) ∧ ((True) ∧ (True)) := ⟨trivial, ⟨trivial, trivial⟩⟩
  refine TS.reg [] ?_ ?_
  · apply prop_of ?_ hq
    kernel_rfl
  refine XS.then ?_
  refine TS.seq ?_
  have hq : (True) ∧ ((True) ∧ ((True) ∧ ((True) ∧ ((True) ∧ ((True) ∧ (True)))))) := ⟨trivial, ⟨trivial, ⟨trivial, ⟨trivial, ⟨trivial, ⟨trivial, trivial⟩⟩⟩⟩⟩⟩
  refine TS.reg [] ?_ ?_
  · apply prop_of ?_ hq
    kernel_rfl
  refine XS.then ?_
  refine TS.seq ?_
  have hq : (True) ∧ ((0 ≤ (32 : Int)) ∧ ((True) ∧ ((True) ∧ ((True) ∧ ((True) ∧ ((True) ∧ (True))))))) := ⟨trivial, ⟨by decide, ⟨trivial, ⟨trivial, ⟨trivial, ⟨trivial, ⟨trivial, trivial⟩⟩⟩⟩⟩⟩⟩
  refine TS.reg [] ?_ ?_
  · apply prop_of ?_ hq
    kernel_rfl
  refine XS.then ?_
  refine TS.ret ?_
  obtain rfl : ((IntKind.wrap .u32 ((shrI .u64 (IntKind.wrap .u64 ((IntKind.wrap .u64 (x)) * (IntKind.wrap .u64 (y)))) (32 : Int)))), (IntKind.wrap .u32 ((IntKind.wrap .u64 ((IntKind.wrap .u64 (x)) * (IntKind.wrap .u64 (y))))))) = r := Option.some.inj h
  exact XS.fin [] ((True) ∧ ((True) ∧ (True))) (by kernel_rfl) ⟨trivial, ⟨trivial, trivial⟩⟩

/-! math/bits.Mul64 -/
def F157 (n : Nat) (x : Int) (y : Int) : Option (Int × Int) := (some ((IntKind.wrap .u64 ((IntKind.wrap .u64 ((IntKind.wrap .u64 ((shrI .u64 x (32 : Int)) * (shrI .u64 y (32 : Int)))) + (shrI .u64 (IntKind.wrap .u64 ((IntKind.wrap .u64 ((shrI .u64 x (32 : Int)) * (bitsI .and .u64 y (4294967295 : Int)))) + (shrI .u64 (IntKind.wrap .u64 ((bitsI .and .u64 x (4294967295 : Int)) * (bitsI .and .u64 y (4294967295 : Int)))) (32 : Int)))) (32 : Int)))) + (shrI .u64 (IntKind.wrap .u64 ((bitsI .and .u64 (IntKind.wrap .u64 ((IntKind.wrap .u64 ((shrI .u64 x (32 : Int)) * (bitsI .and .u64 y (4294967295 : Int)))) + (shrI .u64 (IntKind.wrap .u64 ((bitsI .and .u64 x (4294967295 : Int)) * (bitsI .and .u64 y (4294967295 : Int)))) (32 : Int)))) (4294967295 : Int)) + (IntKind.wrap .u64 ((bitsI .and .u64 x (4294967295 : Int)) * (shrI .u64 y (32 : Int)))))) (32 : Int)))), (IntKind.wrap .u64 (x * y))))
theorem F157_ok (n : Nat) (x : Int) (y : Int) (r : Int × Int) (h : F157 n x y = some r) : PureC Try.prog 157 [(.int .u64 x), (.int .u64 y)] (.tup (.cons (.int .u64 r.1) (.cons (.int .u64 r.2) .nil))) [] := by
  refine PureC.mkS Try.func157 rfl rfl ?_
  intro w0 fz0 hfz
  replace h : (some ((IntKind.wrap .u64 ((IntKind.wrap .u64 ((IntKind.wrap .u64 ((shrI .u64 x (32 : Int)) * (shrI .u64 y (32 : Int)))) + (shrI .u64 (IntKind.wrap .u64 ((IntKind.wrap .u64 ((shrI .u64 x (32 : Int)) * (bitsI .and .u64 y (4294967295 : Int)))) + (shrI .u64 (IntKind.wrap .u64 ((bitsI .and .u64 x (4294967295 : Int)) * (bitsI .and .u64 y (4294967295 : Int)))) (32 : Int)))) (32 : Int)))) + (shrI .u64 (IntKind.wrap .u64 ((bitsI .and .u64 (IntKind.wrap .u64 ((IntKind.wrap .u64 ((shrI .u64 x (32 : Int)) * (bitsI .and .u64 y (4294967295 : Int)))) + (shrI .u64 (IntKind.wrap .u64 ((bitsI .and .u64 x (4294967295 : Int)) * (bitsI .and .u64 y (4294967295 : Int)))) (32 : Int)))) (4294967295 : Int)) + (IntKind.wrap .u64 ((bitsI .and .u64 x (4294967295 : Int)) * (shrI .u64 y (32 : Int)))))) (32 : Int)))), (IntKind.wrap .u64 (x * y)))) = some r := h
  refine TS.seq ?_
  have hq : (True) ∧ ((True) ∧ (True)) := ⟨trivial, ⟨trivial, trivial⟩⟩
  refine TS.reg [] ?_ ?_
  · apply prop_of ?_ hq
    kernel_rfl
  refine XS.then ?_
  refine TS.seq ?_
  have hq : (True) ∧ ((True) ∧ ((True) ∧ (True))) := ⟨trivial, ⟨trivial, ⟨trivial, trivial⟩⟩⟩
  refine TS.reg [] ?_ ?_
  · apply prop_of ?_ hq
    kernel_rfl
  refine XS.then ?_
  refine TS.seq ?_
  have hq : (True) ∧ ((0 ≤ (32 : Int)) ∧ ((True) ∧ (True))) := ⟨trivial, ⟨by decide, ⟨trivial, trivial⟩⟩⟩
  refine TS.reg [] ?_ ?_
  · apply prop_of ?_ hq
    kernel_rfl
  refine XS.then ?_
  refine TS.seq ?_
  have hq : (True) ∧ ((True) ∧ ((True) ∧ (True))) := ⟨trivial, ⟨trivial, ⟨trivial, trivial⟩⟩⟩
  refine TS.reg [] ?_ ?_
  · apply prop_of ?_ hq
    kernel_rfl
  refine XS.then ?_
  refine TS.seq ?_
  have hq : (True) ∧ ((0 ≤ (32 : Int)) ∧ ((True) ∧ (True))) := ⟨trivial, ⟨by decide, ⟨trivial, trivial⟩⟩⟩
  refine TS.reg [] ?_ ?_
  · apply prop_of ?_ hq
    kernel_rfl
  refine XS.then ?_
  refine TS.seq ?_
  have hq : (True) ∧ ((True) ∧ ((True) ∧ ((True) ∧ (True)))) := ⟨trivial, ⟨trivial, ⟨trivial, ⟨trivial, trivial⟩⟩⟩⟩
  refine TS.reg [] ?_ ?_
  · apply prop_of ?_ hq
    kernel_rfl
  refine XS.then ?_
  refine TS.seq ?_
  have hq : (True) ∧ ((True) ∧ ((True) ∧ ((True) ∧ ((0 ≤ (32 : Int)) ∧ ((True) ∧ ((True) ∧ (True))))))) := ⟨trivial, ⟨trivial, ⟨trivial, ⟨trivial, ⟨by decide, ⟨trivial, ⟨trivial, trivial⟩⟩⟩⟩⟩⟩⟩
  refine TS.reg [] ?_ ?_
  · apply prop_of ?_ hq
    kernel_rfl
  refine XS.then ?_
  refine TS.seq ?_
  have hq : (True) ∧ ((True) ∧ ((True) ∧ (True))) := ⟨trivial, ⟨trivial, ⟨trivial, trivial⟩⟩⟩
  refine TS.reg [] ?_ ?_
  · apply prop_of ?_ hq
    kernel_rfl
  refine XS.then ?_
  refine TS.seq ?_
  have hq : (True) ∧ ((0 ≤ (32 : Int)) ∧ ((True) ∧ (True))) := ⟨trivial, ⟨by decide, ⟨trivial, trivial⟩⟩⟩
  refine TS.reg [] ?_ ?_
  · apply prop_of ?_ hq
    kernel_rfl
  refine XS.then ?_
  refine TS.seq ?_
  have hq : (True) ∧ ((True) ∧ ((True) ∧ ((True) ∧ ((True) ∧ ((True) ∧ (True)))))) := ⟨trivial, ⟨trivial, ⟨trivial, ⟨trivial, ⟨trivial, ⟨trivial, trivial⟩⟩⟩⟩⟩⟩
  refine TS.reg [] ?_ ?_
  · apply prop_of ?_ hq
    kernel_rfl
  refine XS.then ?_
  refine TS.seq ?_
  have hq : (True) ∧ ((True) ∧ ((True) ∧ ((True) ∧ ((True) ∧ ((True) ∧ ((0 ≤ (32 : Int)) ∧ ((True) ∧ ((True) ∧ (True))))))))) := ⟨trivial, ⟨trivial, ⟨trivial, ⟨trivial, ⟨trivial, ⟨trivial, ⟨by decide, ⟨trivial, ⟨trivial, trivial⟩⟩⟩⟩⟩⟩⟩⟩⟩
  refine TS.reg [] ?_ ?_
  · apply prop_of ?_ hq
    kernel_rfl
  refine XS.then ?_
  refine TS.seq ?_
  have hq : (True) ∧ ((True) ∧ ((True) ∧ ((True) ∧ (True)))) := ⟨trivial, ⟨trivial, ⟨trivial, ⟨trivial, trivial⟩⟩⟩⟩
  refine TS.reg [] ?_ ?_
  · apply prop_of ?_ hq
    kernel_rfl
  refine XS.then ?_
  refine TS.ret ?_
  obtain rfl : ((IntKind.wrap .u64 ((IntKind.wrap .u64 ((IntKind.wrap .u64 ((shrI .u64 x (32 : Int)) * (shrI .u64 y (32 : Int)))) + (shrI .u64 (IntKind.wrap .u64 ((IntKind.wrap .u64 ((shrI .u64 x (32 : Int)) * (bitsI .and .u64 y (4294967295 : Int)))) + (shrI .u64 (IntKind.wrap .u64 ((bitsI .and .u64 x (4294967295 : Int)) * (bitsI .and .u64 y (4294967295 : Int)))) (32 : Int)))) (32 : Int)))) + (shrI .u64 (IntKind.wrap .u64 ((bitsI .and .u64 (IntKind.wrap .u64 ((IntKind.wrap .u64 ((shrI .u64 x (32 : Int)) * (bitsI .and .u64 y (4294967295 : Int)))) + (shrI .u64 (IntKind.wrap .u64 ((bitsI .and .u64 x (4294967295 : Int)) * (bitsI .and .u64 y (4294967295 : Int)))) (32 : Int)))) (4294967295 : Int)) + (IntKind.wrap .u64 ((bitsI .and .u64 x (4294967295 : Int)) * (shrI .u64 y (32 : Int)))))) (32 : Int)))), (IntKind.wrap .u64 (x * y))) = r := Option.some.inj h
  exact XS.fin [] ((True) ∧ ((True) ∧ (True))) (by kernel_rfl) ⟨trivial, ⟨trivial, trivial⟩⟩

/-! math/bits.Mul -/
def F102 (n : Nat) (x : Int) (y : Int) : Option (Int × Int) := ((F157 n x y).bind fun y_4 => (some (y_4.1, y_4.2)))
theorem F102_ok (n : Nat) (x : Int) (y : Int) (r : Int × Int) (h : F102 n x y = some r) : PureC Try.prog 102 [(.int .u64 x), (.int .u64 y)] (.tup (.cons (.int .u64 r.1) (.cons (.int .u64 r.2) .nil))) [] := by
  refine PureC.mkS Try.func102 rfl rfl ?_
  intro w0 fz0 hfz
  replace h : ((F157 n x y).bind fun y_4 => (some (y_4.1, y_4.2))) = some r := h
  refine TS.seq ?_
  have hq : (True) ∧ ((True) ∧ (True)) := ⟨trivial, ⟨trivial, trivial⟩⟩
  refine TS.reg [] ?_ ?_
  · apply prop_of ?_ hq
    kernel_rfl
  refine XS.then ?_
  refine TS.seq ?_
  refine TS.no ?_ ?_
  · kernel_rfl
  refine TS.skip ?_
  refine XS.then ?_
  refine TS.seq ?_
  obtain ⟨y_4, hx1, h⟩ := bind_some' h
  have hq : (True) ∧ ((True) ∧ ((PureC Try.prog 157 [(.int .u64 x), (.int .u64 y)] (.tup (.cons (.int .u64 y_4.1) (.cons (.int .u64 y_4.2) .nil))) []) ∧ ((True) ∧ ((True) ∧ ((True) ∧ ((True) ∧ ((True) ∧ (True)))))))) := ⟨trivial, ⟨trivial, ⟨F157_ok n x y y_4 hx1, ⟨trivial, ⟨trivial, ⟨trivial, ⟨trivial, ⟨trivial, trivial⟩⟩⟩⟩⟩⟩⟩⟩
  refine TS.reg [.none, .none, (.call (.tup (.cons (.int .u64 y_4.1) (.cons (.int .u64 y_4.2) .nil))) [])] ?_ ?_
  · apply prop_of ?_ hq
    kernel_rfl
  refine XS.then ?_
  refine TS.seq ?_
  have hq : (True) ∧ ((True) ∧ ((True) ∧ ((True) ∧ (True)))) := ⟨trivial, ⟨trivial, ⟨trivial, ⟨trivial, trivial⟩⟩⟩⟩
  refine TS.reg [] ?_ ?_
  · apply prop_of ?_ hq
    kernel_rfl
  refine XS.then ?_
  refine TS.ret ?_
  obtain rfl : (y_4.1, y_4.2) = r := Option.some.inj h
  exact XS.fin [] ((True) ∧ ((True) ∧ (True))) (by kernel_rfl) ⟨trivial, ⟨trivial, trivial⟩⟩

/-! slices.Repeat[[]string,string] -/
def F101_l6 (n : Nat) (k101_6 : (Int × (List (List UInt8))) → Option (List (List UInt8))) : (Int × (List (List UInt8))) → Option (List (List UInt8))
  | (vn, m0) => (bif (decide (vn < ((m0.length : Nat) : Int))) then (bif subB m0.length (some vn) none then (bif subB m0.length none (some vn) then (k101_6 ((IntKind.wrap .i64 (vn + (((((m0.take (0 + vn.toNat)).drop 0).take (m0.length - vn.toNat)).length : Nat) : Int))), (splice m0 vn.toNat (((m0.take (0 + vn.toNat)).drop 0).take (m0.length - vn.toNat))))) else none) else none) else (some m0))
def F101_j5 (n : Nat) (x : List (List UInt8)) (y_2 : Int × Int) : Unit → Option (List (List UInt8))
  | () => (bif (decide (0 ≤ (IntKind.wrap .i64 (y_2.2)) ∧ (IntKind.wrap .i64 (y_2.2)) ≤ 17179869184)) then (loopF (F101_l6 n) n ((((x.take ((List.replicate (IntKind.wrap .i64 (y_2.2)).toNat ([] : List UInt8)).length)).length : Nat) : Int), (splice (List.replicate (IntKind.wrap .i64 (y_2.2)).toNat ([] : List UInt8)) 0 (x.take ((List.replicate (IntKind.wrap .i64 (y_2.2)).toNat ([] : List UInt8)).length))))) else none)
def F101_j4 (n : Nat) (x : List (List UInt8)) (count : Int) : Unit → Option (List (List UInt8))
  | () => ((F102 n (IntKind.wrap .u64 (((x.length : Nat) : Int))) (IntKind.wrap .u64 (count))).bind fun y_2 => (bif (decide (y_2.1 > (0 : Int))) then none else (bif (decide (y_2.2 > (9223372036854775807 : Int))) then none else (F101_j5 n x y_2 ()))))
def F101 (n : Nat) (x : List (List UInt8)) (count : Int) : Option (List (List UInt8)) := (bif (decide (count < (0 : Int))) then none else (F101_j4 n x count ()))
theorem F101_ok (n : Nat) (x : List (List UInt8)) (count : Int) (r : List (List UInt8)) (h : F101 n x count = some r) : PureC Try.prog 101 [(.sl .str x), (.int .i64 count)] (.row 0) [(.row 9 .str r)] := by
  refine PureC.mkS Try.func101 rfl rfl ?_
  intro w0 fz0 hfz
  replace h : (bif (decide (count < (0 : Int))) then none else (F101_j4 n x count ())) = some r := h
  refine TS.seq ?_
  have hq : (True) ∧ (True) := ⟨trivial, trivial⟩
  refine TS.reg [] ?_ ?_
  · apply prop_of ?_ hq
    kernel_rfl
  refine XS.then ?_
  refine TS.seq ?_
  refine TS.seq ?_
  have hq : (True) ∧ ((True) ∧ (True)) := ⟨trivial, ⟨trivial, trivial⟩⟩
  refine TS.reg [] ?_ ?_
  · apply prop_of ?_ hq
    kernel_rfl
  refine XS.then ?_
  refine TS.cut (D := Unit) (fun d => match d with | () => (mkTs 48 [(0, (.sl .str x)), (1, (.int .i64 count))], [])) (fun d => F101_j4 n x count d = some r) ?_ ?_
  · rintro ⟨⟩ h
    replace h : ((F102 n (IntKind.wrap .u64 (((x.length : Nat) : Int))) (IntKind.wrap .u64 (count))).bind fun y_2 => (bif (decide (y_2.1 > (0 : Int))) then none else (bif (decide (y_2.2 > (9223372036854775807 : Int))) then none else (F101_j5 n x y_2 ())))) = some r := h
    refine XS.then ?_
    refine TS.seq ?_
    obtain ⟨y_2, hx1, h⟩ := bind_some' h
    have hq : (True) ∧ ((True) ∧ ((True) ∧ ((True) ∧ ((True) ∧ ((PureC Try.prog 102 [(.int .u64 (IntKind.wrap .u64 (((x.length : Nat) : Int)))), (.int .u64 (IntKind.wrap .u64 (count)))] (.tup (.cons (.int .u64 y_2.1) (.cons (.int .u64 y_2.2) .nil))) []) ∧ ((True) ∧ ((True) ∧ ((True) ∧ ((True) ∧ ((True) ∧ (True))))))))))) := ⟨trivial, ⟨trivial, ⟨trivial, ⟨trivial, ⟨trivial, ⟨F102_ok n (IntKind.wrap .u64 (((x.length : Nat) : Int))) (IntKind.wrap .u64 (count)) y_2 hx1, ⟨trivial, ⟨trivial, ⟨trivial, ⟨trivial, ⟨trivial, trivial⟩⟩⟩⟩⟩⟩⟩⟩⟩⟩⟩
    refine TS.reg [.none, .none, .none, .none, .none, (.call (.tup (.cons (.int .u64 y_2.1) (.cons (.int .u64 y_2.2) .nil))) [])] ?_ ?_
    · apply prop_of ?_ hq
      kernel_rfl
    refine XS.then ?_
    refine TS.seq ?_
    refine TS.seq ?_
    rcases bif_some h with ⟨c2, h⟩ | ⟨c3, h⟩
    · have hq : (True) ∧ ((True) ∧ (((True) ∧ (decide (y_2.1 > (0 : Int))) = true) ∧ ((True) ∧ (True)))) := ⟨trivial, ⟨trivial, ⟨⟨trivial, c2⟩, ⟨trivial, trivial⟩⟩⟩⟩
      refine TS.reg [.none, .none, .dec true] ?_ ?_
      · apply prop_of ?_ hq
        kernel_rfl
      refine XS.then ?_
      refine TS.yes ?_ ?_
      · kernel_rfl
      cases h
    · have hq : (True) ∧ ((True) ∧ (((True) ∧ (decide (y_2.1 > (0 : Int))) = false) ∧ ((True) ∧ ((True) ∧ ((True) ∧ (True)))))) := ⟨trivial, ⟨trivial, ⟨⟨trivial, c3⟩, ⟨trivial, ⟨trivial, ⟨trivial, trivial⟩⟩⟩⟩⟩⟩
      refine TS.reg [.none, .none, .dec false] ?_ ?_
      · apply prop_of ?_ hq
        kernel_rfl
      refine XS.then ?_
      refine TS.cut (D := Unit) (fun d => match d with | () => (mkTs 48 [(0, (.sl .str x)), (6, (.int .u64 y_2.2))], [])) (fun d => F101_j5 n x y_2 d = some r) ?_ ?_
      · rintro ⟨⟩ h
        replace h : (bif (decide (0 ≤ (IntKind.wrap .i64 (y_2.2)) ∧ (IntKind.wrap .i64 (y_2.2)) ≤ 17179869184)) then (loopF (F101_l6 n) n ((((x.take ((List.replicate (IntKind.wrap .i64 (y_2.2)).toNat ([] : List UInt8)).length)).length : Nat) : Int), (splice (List.replicate (IntKind.wrap .i64 (y_2.2)).toNat ([] : List UInt8)) 0 (x.take ((List.replicate (IntKind.wrap .i64 (y_2.2)).toNat ([] : List UInt8)).length))))) else none) = some r := h
        refine XS.then ?_
        refine TS.seq ?_
        obtain ⟨t4, h⟩ := test_some h
        have hq : (True) ∧ ((True) ∧ (((IntKind.wrap .i64 (y_2.2)) = (IntKind.wrap .i64 (y_2.2)) ∧ (0 ≤ (IntKind.wrap .i64 (y_2.2)) ∧ (IntKind.wrap .i64 (y_2.2)) ≤ 17179869184)) ∧ ((True) ∧ (True)))) := ⟨trivial, ⟨trivial, ⟨⟨rfl, of_decide_eq_true t4⟩, ⟨trivial, trivial⟩⟩⟩⟩
        refine TS.reg [] ?_ ?_
        · apply prop_of ?_ hq
          kernel_rfl
        refine XS.then ?_
        refine TS.seq ?_
        have hq : (True) ∧ ((True) ∧ ((True) ∧ ((True) ∧ (True)))) := ⟨trivial, ⟨trivial, ⟨trivial, ⟨trivial, trivial⟩⟩⟩⟩
        refine TS.reg [] ?_ ?_
        · apply prop_of ?_ hq
          kernel_rfl
        refine XS.then ?_
        refine TS.seq ?_
        refine TS.block ?_
        refine TS.reLoop [0] (mkMask 48 [7, 8]) (D := Int × (List (List UInt8))) (fun d => match d with | (vn, m0) => (mkTs 48 [(7, (.row 0)), (8, (.int .i64 vn))], [(.row 9 .str m0)])) (fun n' d => loopF (F101_l6 n) n' d = some r) n ((((x.take ((List.replicate (IntKind.wrap .i64 (y_2.2)).toNat ([] : List UInt8)).length)).length : Nat) : Int), (splice (List.replicate (IntKind.wrap .i64 (y_2.2)).toNat ([] : List UInt8)) 0 (x.take ((List.replicate (IntKind.wrap .i64 (y_2.2)).toNat ([] : List UInt8)).length)))) h ?_ (fun d => loopF_zero _ d r) ?_
        · kernel_rfl
        · rintro n6 ⟨vn, m0⟩ h
          replace h : (bif (decide (vn < ((m0.length : Nat) : Int))) then (bif subB m0.length (some vn) none then (bif subB m0.length none (some vn) then ((loopF (F101_l6 n) n6) ((IntKind.wrap .i64 (vn + (((((m0.take (0 + vn.toNat)).drop 0).take (m0.length - vn.toNat)).length : Nat) : Int))), (splice m0 vn.toNat (((m0.take (0 + vn.toNat)).drop 0).take (m0.length - vn.toNat))))) else none) else none) else (some m0)) = some r := h
          refine TS.seq ?_
          refine TS.seq ?_
          have hq : (True) ∧ ((True) ∧ ((True) ∧ ((True) ∧ (True)))) := ⟨trivial, ⟨trivial, ⟨trivial, ⟨trivial, trivial⟩⟩⟩⟩
          refine TS.reg [] ?_ ?_
          · apply prop_of ?_ hq
            kernel_rfl
          refine XS.then ?_
          rcases bif_some h with ⟨c5, h⟩ | ⟨c6, h⟩
          · refine TS.cond (decide (vn < ((m0.length : Nat) : Int))) ?_ (fun hcz => ?_) (fun hcz => by rw [c5] at hcz; cases hcz)
            · kernel_rfl
            refine TS.skip ?_
            refine XS.then ?_
            refine TS.block ?_
            obtain ⟨t7, h⟩ := test_some h
            obtain ⟨t8, h⟩ := test_some h
            have hq : ((True) ∧ ((True) ∧ ((True) ∧ ((subC m0.length (some vn) none) ∧ ((True) ∧ ((True) ∧ ((subC m0.length none (some vn)) ∧ ((True) ∧ ((True) ∧ (True)))))))))) ∧ ((True) ∧ (True)) := ⟨⟨trivial, ⟨trivial, ⟨trivial, ⟨subB_ok t7, ⟨trivial, ⟨trivial, ⟨subB_ok t8, ⟨trivial, ⟨trivial, trivial⟩⟩⟩⟩⟩⟩⟩⟩⟩, ⟨trivial, trivial⟩⟩
            refine TS.draw 9 [(7, 0)] [] (by kernel_rfl) ?_ ?_
            · apply prop_of ?_ hq
              kernel_rfl
            refine XS.blockEnd ?_
            refine XS.reAny [0] (mkMask 48 [7, 8]) ((IntKind.wrap .i64 (vn + (((((m0.take (0 + vn.toNat)).drop 0).take (m0.length - vn.toNat)).length : Nat) : Int))), (splice m0 vn.toNat (((m0.take (0 + vn.toNat)).drop 0).take (m0.length - vn.toNat)))) h ?_
            kernel_rfl
          · refine TS.cond (decide (vn < ((m0.length : Nat) : Int))) ?_ (fun hcz => by rw [c6] at hcz; cases hcz) (fun hcz => ?_)
            · kernel_rfl
            refine TS.exit ?_
            refine XS.passE ?_
            refine XS.passE ?_
            refine XS.out ?_
            refine XS.then ?_
            refine TS.seq ?_
            have hq : (True) ∧ ((True) ∧ (True)) := ⟨trivial, ⟨trivial, trivial⟩⟩
            refine TS.reg [] ?_ ?_
            · apply prop_of ?_ hq
              kernel_rfl
            refine XS.then ?_
            refine TS.ret ?_
            obtain rfl : m0 = r := Option.some.inj h
            exact XS.fin [0] ((True) ∧ (True)) (by kernel_rfl) ⟨trivial, trivial⟩
      · rcases bif_some h with ⟨c9, h⟩ | ⟨c10, h⟩
        · refine TS.cond (decide (y_2.2 > (9223372036854775807 : Int))) ?_ (fun hcz => ?_) (fun hcz => by rw [c9] at hcz; cases hcz)
          · kernel_rfl
          cases h
        · refine TS.cond (decide (y_2.2 > (9223372036854775807 : Int))) ?_ (fun hcz => by rw [c10] at hcz; cases hcz) (fun hcz => ?_)
          · kernel_rfl
          refine TS.skip ?_
          refine XS.reAny [] (mkMask 48 [0, 6]) () h ?_
          kernel_rfl
  · rcases bif_some h with ⟨c11, h⟩ | ⟨c12, h⟩
    · refine TS.cond (decide (count < (0 : Int))) ?_ (fun hcz => ?_) (fun hcz => by rw [c11] at hcz; cases hcz)
      · kernel_rfl
      cases h
    · refine TS.cond (decide (count < (0 : Int))) ?_ (fun hcz => by rw [c12] at hcz; cases hcz) (fun hcz => ?_)
      · kernel_rfl
      refine TS.skip ?_
      refine XS.reAny [] (mkMask 48 [0, 1]) () h ?_
      kernel_rfl

/-! plugtree/scsi.New -/
def F40 (n : Nat) (blocks : Int) : Option (Int × Int × (List (List UInt8))) := (bif (decide (blocks < (1 : Int))) then (some ((0 : Int), (1 : Int), ([] : List (List UInt8)))) else (bif (decide (blocks > (64 : Int))) then (some ((0 : Int), (1 : Int), ([] : List (List UInt8)))) else ((F41 n ([0] : List UInt8) (16 : Int)).bind fun y_4 => ((F101 n [y_4] blocks).bind fun y_5 => (some ((0 : Int), (0 : Int), y_5))))))
theorem F40_ok (n : Nat) (blocks : Int) (r : Int × Int × (List (List UInt8))) (h : F40 n blocks = some r) : PureC Try.prog 40 [(.int .i64 blocks)] (.tup (.cons (.st (.cons (.row 0) (.int .i64 r.1))) (.cons (.int .i64 r.2.1) .nil))) [(.row 9 .str r.2.2)] := by
  refine PureC.mkS Try.func40 rfl rfl ?_
  intro w0 fz0 hfz
  replace h : (bif (decide (blocks < (1 : Int))) then (some ((0 : Int), (1 : Int), ([] : List (List UInt8)))) else (bif (decide (blocks > (64 : Int))) then (some ((0 : Int), (1 : Int), ([] : List (List UInt8)))) else ((F41 n ([0] : List UInt8) (16 : Int)).bind fun y_4 => ((F101 n [y_4] blocks).bind fun y_5 => (some ((0 : Int), (0 : Int), y_5)))))) = some r := h
  refine TS.seq ?_
  have hq : (True) ∧ ((True) ∧ (True)) := ⟨trivial, ⟨trivial, trivial⟩⟩
  refine TS.reg [] ?_ ?_
  · apply prop_of ?_ hq
    kernel_rfl
  refine XS.then ?_
  refine TS.seq ?_
  refine TS.seq ?_
  rcases bif_some h with ⟨c1, h⟩ | ⟨c2, h⟩
  · have hq : (True) ∧ ((True) ∧ (((True) ∧ (decide (blocks < (1 : Int))) = true) ∧ ((True) ∧ (True)))) := ⟨trivial, ⟨trivial, ⟨⟨trivial, c1⟩, ⟨trivial, trivial⟩⟩⟩⟩
    refine TS.reg [.none, .none, .dec true] ?_ ?_
    · apply prop_of ?_ hq
      kernel_rfl
    refine XS.then ?_
    refine TS.yes ?_ ?_
    · kernel_rfl
    refine TS.seq ?_
    have hq : (True) ∧ ((True) ∧ ((True) ∧ (True))) := ⟨trivial, ⟨trivial, ⟨trivial, trivial⟩⟩⟩
    refine TS.reg [] ?_ ?_
    · apply prop_of ?_ hq
      kernel_rfl
    refine XS.then ?_
    refine TS.ret ?_
    refine XS.passR ?_
    obtain rfl : ((0 : Int), (1 : Int), ([] : List (List UInt8))) = r := Option.some.inj h
    refine XS.wk (.row true 0 [false] 9 .str) ?_
    exact XS.fin [1] ((True) ∧ ((True) ∧ (True))) (by kernel_rfl) ⟨trivial, ⟨trivial, trivial⟩⟩
  · have hq : (True) ∧ ((True) ∧ (((True) ∧ (decide (blocks < (1 : Int))) = false) ∧ ((True) ∧ ((True) ∧ ((True) ∧ (True)))))) := ⟨trivial, ⟨trivial, ⟨⟨trivial, c2⟩, ⟨trivial, ⟨trivial, ⟨trivial, trivial⟩⟩⟩⟩⟩⟩
    refine TS.reg [.none, .none, .dec false] ?_ ?_
    · apply prop_of ?_ hq
      kernel_rfl
    refine XS.then ?_
    rcases bif_some h with ⟨c3, h⟩ | ⟨c4, h⟩
    · refine TS.cond (decide (blocks > (64 : Int))) ?_ (fun hcz => ?_) (fun hcz => by rw [c3] at hcz; cases hcz)
      · kernel_rfl
      refine TS.seq ?_
      have hq : (True) ∧ ((True) ∧ ((True) ∧ (True))) := ⟨trivial, ⟨trivial, ⟨trivial, trivial⟩⟩⟩
      refine TS.reg [] ?_ ?_
      · apply prop_of ?_ hq
        kernel_rfl
      refine XS.then ?_
      refine TS.ret ?_
      refine XS.passR ?_
      obtain rfl : ((0 : Int), (1 : Int), ([] : List (List UInt8))) = r := Option.some.inj h
      refine XS.wk (.row true 0 [false] 9 .str) ?_
      exact XS.fin [1] ((True) ∧ ((True) ∧ (True))) (by kernel_rfl) ⟨trivial, ⟨trivial, trivial⟩⟩
    · refine TS.cond (decide (blocks > (64 : Int))) ?_ (fun hcz => by rw [c4] at hcz; cases hcz) (fun hcz => ?_)
      · kernel_rfl
      refine TS.skip ?_
      refine XS.then ?_
      refine TS.seq ?_
      obtain ⟨y_4, hx5, h⟩ := bind_some' h
      obtain ⟨y_5, hx6, h⟩ := bind_some' h
      have hq : (PureC Try.prog 41 [(.str ([0] : List UInt8)), (.int .i64 (16 : Int))] (.str y_4) []) ∧ (((0 < 1 ∧ True) ∧ (True)) ∧ ((True) ∧ ((((True) ∧ ((True) ∧ (True))) ∧ PureC Try.prog 101 [(.sl .str [y_4]), (.int .i64 blocks)] (.row 0) [(.row 9 .str y_5)]) ∧ (((True) ∧ (True)) ∧ ((True) ∧ ((True) ∧ (True))))))) := ⟨F41_ok n ([0] : List UInt8) (16 : Int) y_4 hx5, ⟨⟨⟨by decide, trivial⟩, trivial⟩, ⟨trivial, ⟨⟨⟨trivial, ⟨trivial, trivial⟩⟩, F101_ok n [y_4] blocks y_5 hx6⟩, ⟨⟨trivial, trivial⟩, ⟨trivial, ⟨trivial, trivial⟩⟩⟩⟩⟩⟩⟩
      refine TS.reg [(.call (.str y_4) []), .none, .none, (.call (.row 0) [(.row 9 .str y_5)])] ?_ ?_
      · apply prop_of ?_ hq
        kernel_rfl
      refine XS.then ?_
      refine TS.ret ?_
      obtain rfl : ((0 : Int), (0 : Int), y_5) = r := Option.some.inj h
      exact XS.fin [2] ((True) ∧ ((True) ∧ (True))) (by kernel_rfl) ⟨trivial, ⟨trivial, trivial⟩⟩

/-! plugtree/plugref.Between -/
def F15 (n : Nat) (vn : Int) (low : Int) (high : Int) : Option Bool := (bif (decide (low ≤ vn)) then (some (decide (vn ≤ high))) else (some false))
theorem F15_ok (n : Nat) (vn : Int) (low : Int) (high : Int) (r : Bool) (h : F15 n vn low high = some r) : PureC Try.prog 15 [(.int .i64 vn), (.int .i64 low), (.int .i64 high)] (.bool r) [] := by
  refine PureC.mkS Try.func15 rfl rfl ?_
  intro w0 fz0 hfz
  replace h : (bif (decide (low ≤ vn)) then (some (decide (vn ≤ high))) else (some false)) = some r := h
  refine TS.seq ?_
  have hq : (True) ∧ (True) := ⟨trivial, trivial⟩
  refine TS.reg [] ?_ ?_
  · apply prop_of ?_ hq
    kernel_rfl
  refine XS.then ?_
  refine TS.seq ?_
  rcases bif_some h with ⟨c1, h⟩ | ⟨c2, h⟩
  · have hq : (True) ∧ ((True) ∧ ((True) ∧ (((True) ∧ (decide (low ≤ vn)) = true) ∧ ((True) ∧ ((True) ∧ ((True) ∧ ((True) ∧ ((True) ∧ (True))))))))) := ⟨trivial, ⟨trivial, ⟨trivial, ⟨⟨trivial, c1⟩, ⟨trivial, ⟨trivial, ⟨trivial, ⟨trivial, ⟨trivial, trivial⟩⟩⟩⟩⟩⟩⟩⟩⟩
    refine TS.reg [.none, .none, .none, .dec true] ?_ ?_
    · apply prop_of ?_ hq
      kernel_rfl
    refine XS.then ?_
    refine TS.ret ?_
    obtain rfl : (decide (vn ≤ high)) = r := Option.some.inj h
    exact XS.fin [] ((True) ∧ (True)) (by kernel_rfl) ⟨trivial, trivial⟩
  · have hq : (True) ∧ ((True) ∧ ((True) ∧ (((True) ∧ (decide (low ≤ vn)) = false) ∧ ((True) ∧ ((True) ∧ (True)))))) := ⟨trivial, ⟨trivial, ⟨trivial, ⟨⟨trivial, c2⟩, ⟨trivial, ⟨trivial, trivial⟩⟩⟩⟩⟩⟩
    refine TS.reg [.none, .none, .none, .dec false] ?_ ?_
    · apply prop_of ?_ hq
      kernel_rfl
    refine XS.then ?_
    refine TS.ret ?_
    obtain rfl : false = r := Option.some.inj h
    exact XS.fin [] ((True) ∧ (True)) (by kernel_rfl) ⟨trivial, trivial⟩

/-! plugtree/scsi.long -/
def F108 (n : Nat) (vn : Int) : Option (List UInt8) := (some (strOf [(IntKind.wrap .u8 ((shrI .i64 vn (24 : Int)))), (IntKind.wrap .u8 ((shrI .i64 vn (16 : Int)))), (IntKind.wrap .u8 ((shrI .i64 vn (8 : Int)))), (IntKind.wrap .u8 (vn))]))
theorem F108_ok (n : Nat) (vn : Int) (r : List UInt8) (h : F108 n vn = some r) : PureC Try.prog 108 [(.int .i64 vn)] (.str r) [] := by
  refine PureC.mkS Try.func108 rfl rfl ?_
  intro w0 fz0 hfz
  replace h : (some (strOf [(IntKind.wrap .u8 ((shrI .i64 vn (24 : Int)))), (IntKind.wrap .u8 ((shrI .i64 vn (16 : Int)))), (IntKind.wrap .u8 ((shrI .i64 vn (8 : Int)))), (IntKind.wrap .u8 (vn))])) = some r := h
  refine TS.seq ?_
  have hq : (True) ∧ (True) := ⟨trivial, trivial⟩
  refine TS.reg [] ?_ ?_
  · apply prop_of ?_ hq
    kernel_rfl
  refine XS.then ?_
  refine TS.seq ?_
  have hq : (True) ∧ ((0 ≤ (24 : Int)) ∧ ((True) ∧ ((True) ∧ ((0 ≤ (16 : Int)) ∧ ((True) ∧ ((True) ∧ ((0 ≤ (8 : Int)) ∧ ((True) ∧ ((True) ∧ ((True) ∧ (((0 < 4 ∧ True) ∧ ((1 < 4 ∧ True) ∧ ((2 < 4 ∧ True) ∧ ((3 < 4 ∧ True) ∧ (True))))) ∧ ((True) ∧ ((True) ∧ (True)))))))))))))) := ⟨trivial, ⟨by decide, ⟨trivial, ⟨trivial, ⟨by decide, ⟨trivial, ⟨trivial, ⟨by decide, ⟨trivial, ⟨trivial, ⟨trivial, ⟨⟨⟨by decide, trivial⟩, ⟨⟨by decide, trivial⟩, ⟨⟨by decide, trivial⟩, ⟨⟨by decide, trivial⟩, trivial⟩⟩⟩⟩, ⟨trivial, ⟨trivial, trivial⟩⟩⟩⟩⟩⟩⟩⟩⟩⟩⟩⟩⟩⟩
  refine TS.reg [] ?_ ?_
  · apply prop_of ?_ hq
    kernel_rfl
  refine XS.then ?_
  refine TS.ret ?_
  obtain rfl : (strOf [(IntKind.wrap .u8 ((shrI .i64 vn (24 : Int)))), (IntKind.wrap .u8 ((shrI .i64 vn (16 : Int)))), (IntKind.wrap .u8 ((shrI .i64 vn (8 : Int)))), (IntKind.wrap .u8 (vn))]) = r := Option.some.inj h
  exact XS.fin [] ((True) ∧ (True)) (by kernel_rfl) ⟨trivial, trivial⟩

/-! plugtree/scsi.Make -/
def F42_j2 (n : Nat) (op : Int) (lba : Int) (count : Int) : Bool → Option ((List UInt8) × Int)
  | x => (bif x then (some (([] : List UInt8), (1 : Int))) else ((F108 n lba).bind fun y_3 => (bif (decide ((strOf [(IntKind.wrap .u8 (op)), (0 : Int)]).length + y_3.length ≤ 9223372036854775807)) then (bif (decide (((strOf [(IntKind.wrap .u8 (op)), (0 : Int)]) ++ y_3).length + (strOf [(0 : Int), (IntKind.wrap .u8 ((shrI .i64 count (8 : Int)))), (IntKind.wrap .u8 (count)), (0 : Int)]).length ≤ 9223372036854775807)) then (some ((((strOf [(IntKind.wrap .u8 (op)), (0 : Int)]) ++ y_3) ++ (strOf [(0 : Int), (IntKind.wrap .u8 ((shrI .i64 count (8 : Int)))), (IntKind.wrap .u8 (count)), (0 : Int)])), (0 : Int))) else none) else none)))
def F42 (n : Nat) (op : Int) (lba : Int) (count : Int) : Option ((List UInt8) × Int) := (bif (op != (40 : Int)) then (bif (op != (42 : Int)) then (bif (op != (53 : Int)) then (F42_j2 n op lba count true) else (bif (decide (lba < (0 : Int))) then (F42_j2 n op lba count true) else (bif (decide (lba ≥ (4294967296 : Int))) then (F42_j2 n op lba count true) else (bif (decide (count < (0 : Int))) then (F42_j2 n op lba count true) else (F42_j2 n op lba count (decide (count > (65535 : Int)))))))) else (bif (decide (lba < (0 : Int))) then (F42_j2 n op lba count true) else (bif (decide (lba ≥ (4294967296 : Int))) then (F42_j2 n op lba count true) else (bif (decide (count < (0 : Int))) then (F42_j2 n op lba count true) else (F42_j2 n op lba count (decide (count > (65535 : Int)))))))) else (bif (decide (lba < (0 : Int))) then (F42_j2 n op lba count true) else (bif (decide (lba ≥ (4294967296 : Int))) then (F42_j2 n op lba count true) else (bif (decide (count < (0 : Int))) then (F42_j2 n op lba count true) else (F42_j2 n op lba count (decide (count > (65535 : Int))))))))
theorem F42_ok (n : Nat) (op : Int) (lba : Int) (count : Int) (r : (List UInt8) × Int) (h : F42 n op lba count = some r) : PureC Try.prog 42 [(.int .i64 op), (.int .i64 lba), (.int .i64 count)] (.tup (.cons (.str r.1) (.cons (.int .i64 r.2) .nil))) [] := by
  refine PureC.mkS Try.func42 rfl rfl ?_
  intro w0 fz0 hfz
  replace h : (bif (op != (40 : Int)) then (bif (op != (42 : Int)) then (bif (op != (53 : Int)) then (F42_j2 n op lba count true) else (bif (decide (lba < (0 : Int))) then (F42_j2 n op lba count true) else (bif (decide (lba ≥ (4294967296 : Int))) then (F42_j2 n op lba count true) else (bif (decide (count < (0 : Int))) then (F42_j2 n op lba count true) else (F42_j2 n op lba count (decide (count > (65535 : Int)))))))) else (bif (decide (lba < (0 : Int))) then (F42_j2 n op lba count true) else (bif (decide (lba ≥ (4294967296 : Int))) then (F42_j2 n op lba count true) else (bif (decide (count < (0 : Int))) then (F42_j2 n op lba count true) else (F42_j2 n op lba count (decide (count > (65535 : Int)))))))) else (bif (decide (lba < (0 : Int))) then (F42_j2 n op lba count true) else (bif (decide (lba ≥ (4294967296 : Int))) then (F42_j2 n op lba count true) else (bif (decide (count < (0 : Int))) then (F42_j2 n op lba count true) else (F42_j2 n op lba count (decide (count > (65535 : Int)))))))) = some r := h
  refine TS.seq ?_
  have hq : (True) ∧ ((True) ∧ (True)) := ⟨trivial, ⟨trivial, trivial⟩⟩
  refine TS.reg [] ?_ ?_
  · apply prop_of ?_ hq
    kernel_rfl
  refine XS.then ?_
  refine TS.seq ?_
  refine TS.seq ?_
  refine TS.cut (D := Bool) (fun d => match d with | x => (mkTs 49 [(0, (.int .i64 op)), (1, (.int .i64 lba)), (2, (.int .i64 count)), (33, (.bool x))], [])) (fun d => F42_j2 n op lba count d = some r) ?_ ?_
  · rintro x h
    replace h : (bif x then (some (([] : List UInt8), (1 : Int))) else ((F108 n lba).bind fun y_3 => (bif (decide ((strOf [(IntKind.wrap .u8 (op)), (0 : Int)]).length + y_3.length ≤ 9223372036854775807)) then (bif (decide (((strOf [(IntKind.wrap .u8 (op)), (0 : Int)]) ++ y_3).length + (strOf [(0 : Int), (IntKind.wrap .u8 ((shrI .i64 count (8 : Int)))), (IntKind.wrap .u8 (count)), (0 : Int)]).length ≤ 9223372036854775807)) then (some ((((strOf [(IntKind.wrap .u8 (op)), (0 : Int)]) ++ y_3) ++ (strOf [(0 : Int), (IntKind.wrap .u8 ((shrI .i64 count (8 : Int)))), (IntKind.wrap .u8 (count)), (0 : Int)])), (0 : Int))) else none) else none))) = some r := h
    refine XS.then ?_
    rcases bif_some h with ⟨c1, h⟩ | ⟨c2, h⟩
    · refine TS.cond x ?_ (fun hcz => ?_) (fun hcz => by rw [c1] at hcz; cases hcz)
      · kernel_rfl
      refine TS.seq ?_
      have hq : (True) ∧ ((True) ∧ (True)) := ⟨trivial, ⟨trivial, trivial⟩⟩
      refine TS.reg [] ?_ ?_
      · apply prop_of ?_ hq
        kernel_rfl
      refine XS.then ?_
      refine TS.ret ?_
      refine XS.passR ?_
      obtain rfl : (([] : List UInt8), (1 : Int)) = r := Option.some.inj h
      exact XS.fin [] ((True) ∧ ((True) ∧ (True))) (by kernel_rfl) ⟨trivial, ⟨trivial, trivial⟩⟩
    · refine TS.cond x ?_ (fun hcz => by rw [c2] at hcz; cases hcz) (fun hcz => ?_)
      · kernel_rfl
      refine TS.skip ?_
      refine XS.then ?_
      refine TS.seq ?_
      obtain ⟨y_3, hx3, h⟩ := bind_some' h
      obtain ⟨t4, h⟩ := test_some h
      obtain ⟨t5, h⟩ := test_some h
      have hq : ((True) ∧ ((True) ∧ (((0 < 2 ∧ True) ∧ ((1 < 2 ∧ True) ∧ (True))) ∧ ((True) ∧ ((True) ∧ ((PureC Try.prog 108 [(.int .i64 lba)] (.str y_3) []) ∧ (((strOf [(IntKind.wrap .u8 (op)), (0 : Int)]).length + y_3.length ≤ 9223372036854775807) ∧ ((True) ∧ ((0 ≤ (8 : Int)) ∧ ((True) ∧ ((True) ∧ ((True) ∧ (((0 < 4 ∧ True) ∧ ((1 < 4 ∧ True) ∧ ((2 < 4 ∧ True) ∧ ((3 < 4 ∧ True) ∧ (True))))) ∧ ((True) ∧ ((((strOf [(IntKind.wrap .u8 (op)), (0 : Int)]) ++ y_3).length + (strOf [(0 : Int), (IntKind.wrap .u8 ((shrI .i64 count (8 : Int)))), (IntKind.wrap .u8 (count)), (0 : Int)]).length ≤ 9223372036854775807) ∧ (True)))))))))))))))) ∧ ((True) ∧ ((True) ∧ (True))) := ⟨⟨trivial, ⟨trivial, ⟨⟨⟨by decide, trivial⟩, ⟨⟨by decide, trivial⟩, trivial⟩⟩, ⟨trivial, ⟨trivial, ⟨F108_ok n lba y_3 hx3, ⟨of_decide_eq_true t4, ⟨trivial, ⟨by decide, ⟨trivial, ⟨trivial, ⟨trivial, ⟨⟨⟨by decide, trivial⟩, ⟨⟨by decide, trivial⟩, ⟨⟨by decide, trivial⟩, ⟨⟨by decide, trivial⟩, trivial⟩⟩⟩⟩, ⟨trivial, ⟨of_decide_eq_true t5, trivial⟩⟩⟩⟩⟩⟩⟩⟩⟩⟩⟩⟩⟩⟩⟩, ⟨trivial, ⟨trivial, trivial⟩⟩⟩
      refine TS.draw 15 [] [.none, .none, .none, .none, .none, (.call (.str y_3) [])] (by kernel_rfl) ?_ ?_
      · apply prop_of ?_ hq
        kernel_rfl
      refine XS.then ?_
      refine TS.ret ?_
      obtain rfl : ((((strOf [(IntKind.wrap .u8 (op)), (0 : Int)]) ++ y_3) ++ (strOf [(0 : Int), (IntKind.wrap .u8 ((shrI .i64 count (8 : Int)))), (IntKind.wrap .u8 (count)), (0 : Int)])), (0 : Int)) = r := Option.some.inj h
      exact XS.fin [] ((True) ∧ ((True) ∧ (True))) (by kernel_rfl) ⟨trivial, ⟨trivial, trivial⟩⟩
  · rcases bif_some h with ⟨c6, h⟩ | ⟨c7, h⟩
    · rcases bif_some h with ⟨c8, h⟩ | ⟨c9, h⟩
      · rcases bif_some h with ⟨c10, h⟩ | ⟨c11, h⟩
        · have hq : (True) ∧ ((True) ∧ (((True) ∧ (op != (40 : Int)) = true) ∧ ((True) ∧ ((True) ∧ ((True) ∧ (((True) ∧ (op != (42 : Int)) = true) ∧ ((True) ∧ ((True) ∧ ((True) ∧ (((True) ∧ (op != (53 : Int)) = true) ∧ ((True) ∧ ((True) ∧ ((True) ∧ ((True) ∧ ((True) ∧ ((True) ∧ ((True) ∧ (True)))))))))))))))))) := ⟨trivial, ⟨trivial, ⟨⟨trivial, c6⟩, ⟨trivial, ⟨trivial, ⟨trivial, ⟨⟨trivial, c8⟩, ⟨trivial, ⟨trivial, ⟨trivial, ⟨⟨trivial, c10⟩, ⟨trivial, ⟨trivial, ⟨trivial, ⟨trivial, ⟨trivial, ⟨trivial, ⟨trivial, trivial⟩⟩⟩⟩⟩⟩⟩⟩⟩⟩⟩⟩⟩⟩⟩⟩⟩⟩
          refine TS.reg [.none, .none, .dec true, .none, .none, .none, .dec true, .none, .none, .none, .dec true] ?_ ?_
          · apply prop_of ?_ hq
            kernel_rfl
          refine XS.reAny [] (mkMask 49 [0, 1, 2, 33]) true h ?_
          kernel_rfl
        · rcases bif_some h with ⟨c12, h⟩ | ⟨c13, h⟩
          · have hq : (True) ∧ ((True) ∧ (((True) ∧ (op != (40 : Int)) = true) ∧ ((True) ∧ ((True) ∧ ((True) ∧ (((True) ∧ (op != (42 : Int)) = true) ∧ ((True) ∧ ((True) ∧ ((True) ∧ (((True) ∧ (op != (53 : Int)) = false) ∧ ((True) ∧ ((True) ∧ ((True) ∧ (((True) ∧ (decide (lba < (0 : Int))) = true) ∧ ((True) ∧ ((True) ∧ ((True) ∧ ((True) ∧ ((True) ∧ (True)))))))))))))))))))) := ⟨trivial, ⟨trivial, ⟨⟨trivial, c6⟩, ⟨trivial, ⟨trivial, ⟨trivial, ⟨⟨trivial, c8⟩, ⟨trivial, ⟨trivial, ⟨trivial, ⟨⟨trivial, c11⟩, ⟨trivial, ⟨trivial, ⟨trivial, ⟨⟨trivial, c12⟩, ⟨trivial, ⟨trivial, ⟨trivial, ⟨trivial, ⟨trivial, trivial⟩⟩⟩⟩⟩⟩⟩⟩⟩⟩⟩⟩⟩⟩⟩⟩⟩⟩⟩⟩
            refine TS.reg [.none, .none, .dec true, .none, .none, .none, .dec true, .none, .none, .none, .dec false, .none, .none, .none, .dec true] ?_ ?_
            · apply prop_of ?_ hq
              kernel_rfl
            refine XS.reAny [] (mkMask 49 [0, 1, 2, 33]) true h ?_
            kernel_rfl
          · rcases bif_some h with ⟨c14, h⟩ | ⟨c15, h⟩
            · have hq : (True) ∧ ((True) ∧ (((True) ∧ (op != (40 : Int)) = true) ∧ ((True) ∧ ((True) ∧ ((True) ∧ (((True) ∧ (op != (42 : Int)) = true) ∧ ((True) ∧ ((True) ∧ ((True) ∧ (((True) ∧ (op != (53 : Int)) = false) ∧ ((True) ∧ ((True) ∧ ((True) ∧ (((True) ∧ (decide (lba < (0 : Int))) = false) ∧ ((True) ∧ ((True) ∧ ((True) ∧ (((True) ∧ (decide (lba ≥ (4294967296 : Int))) = true) ∧ ((True) ∧ ((True) ∧ ((True) ∧ (True)))))))))))))))))))))) := ⟨trivial, ⟨trivial, ⟨⟨trivial, c6⟩, ⟨trivial, ⟨trivial, ⟨trivial, ⟨⟨trivial, c8⟩, ⟨trivial, ⟨trivial, ⟨trivial, ⟨⟨trivial, c11⟩, ⟨trivial, ⟨trivial, ⟨trivial, ⟨⟨trivial, c13⟩, ⟨trivial, ⟨trivial, ⟨trivial, ⟨⟨trivial, c14⟩, ⟨trivial, ⟨trivial, ⟨trivial, trivial⟩⟩⟩⟩⟩⟩⟩⟩⟩⟩⟩⟩⟩⟩⟩⟩⟩⟩⟩⟩⟩⟩
              refine TS.reg [.none, .none, .dec true, .none, .none, .none, .dec true, .none, .none, .none, .dec false, .none, .none, .none, .dec false, .none, .none, .none, .dec true] ?_ ?_
              · apply prop_of ?_ hq
                kernel_rfl
              refine XS.reAny [] (mkMask 49 [0, 1, 2, 33]) true h ?_
              kernel_rfl
            · rcases bif_some h with ⟨c16, h⟩ | ⟨c17, h⟩
              · have hq : (True) ∧ ((True) ∧ (((True) ∧ (op != (40 : Int)) = true) ∧ ((True) ∧ ((True) ∧ ((True) ∧ (((True) ∧ (op != (42 : Int)) = true) ∧ ((True) ∧ ((True) ∧ ((True) ∧ (((True) ∧ (op != (53 : Int)) = false) ∧ ((True) ∧ ((True) ∧ ((True) ∧ (((True) ∧ (decide (lba < (0 : Int))) = false) ∧ ((True) ∧ ((True) ∧ ((True) ∧ (((True) ∧ (decide (lba ≥ (4294967296 : Int))) = false) ∧ ((True) ∧ ((True) ∧ ((True) ∧ (((True) ∧ (decide (count < (0 : Int))) = true) ∧ ((True) ∧ (True)))))))))))))))))))))))) := ⟨trivial, ⟨trivial, ⟨⟨trivial, c6⟩, ⟨trivial, ⟨trivial, ⟨trivial, ⟨⟨trivial, c8⟩, ⟨trivial, ⟨trivial, ⟨trivial, ⟨⟨trivial, c11⟩, ⟨trivial, ⟨trivial, ⟨trivial, ⟨⟨trivial, c13⟩, ⟨trivial, ⟨trivial, ⟨trivial, ⟨⟨trivial, c15⟩, ⟨trivial, ⟨trivial, ⟨trivial, ⟨⟨trivial, c16⟩, ⟨trivial, trivial⟩⟩⟩⟩⟩⟩⟩⟩⟩⟩⟩⟩⟩⟩⟩⟩⟩⟩⟩⟩⟩⟩⟩⟩
                refine TS.reg [.none, .none, .dec true, .none, .none, .none, .dec true, .none, .none, .none, .dec false, .none, .none, .none, .dec false, .none, .none, .none, .dec false, .none, .none, .none, .dec true] ?_ ?_
                · apply prop_of ?_ hq
                  kernel_rfl
                refine XS.reAny [] (mkMask 49 [0, 1, 2, 33]) true h ?_
                kernel_rfl
              · have hq : (True) ∧ ((True) ∧ (((True) ∧ (op != (40 : Int)) = true) ∧ ((True) ∧ ((True) ∧ ((True) ∧ (((True) ∧ (op != (42 : Int)) = true) ∧ ((True) ∧ ((True) ∧ ((True) ∧ (((True) ∧ (op != (53 : Int)) = false) ∧ ((True) ∧ ((True) ∧ ((True) ∧ (((True) ∧ (decide (lba < (0 : Int))) = false) ∧ ((True) ∧ ((True) ∧ ((True) ∧ (((True) ∧ (decide (lba ≥ (4294967296 : Int))) = false) ∧ ((True) ∧ ((True) ∧ ((True) ∧ (((True) ∧ (decide (count < (0 : Int))) = false) ∧ ((True) ∧ ((True) ∧ ((True) ∧ (True)))))))))))))))))))))))))) := ⟨trivial, ⟨trivial, ⟨⟨trivial, c6⟩, ⟨trivial, ⟨trivial, ⟨trivial, ⟨⟨trivial, c8⟩, ⟨trivial, ⟨trivial, ⟨trivial, ⟨⟨trivial, c11⟩, ⟨trivial, ⟨trivial, ⟨trivial, ⟨⟨trivial, c13⟩, ⟨trivial, ⟨trivial, ⟨trivial, ⟨⟨trivial, c15⟩, ⟨trivial, ⟨trivial, ⟨trivial, ⟨⟨trivial, c17⟩, ⟨trivial, ⟨trivial, ⟨trivial, trivial⟩⟩⟩⟩⟩⟩⟩⟩⟩⟩⟩⟩⟩⟩⟩⟩⟩⟩⟩⟩⟩⟩⟩⟩⟩⟩
                refine TS.reg [.none, .none, .dec true, .none, .none, .none, .dec true, .none, .none, .none, .dec false, .none, .none, .none, .dec false, .none, .none, .none, .dec false, .none, .none, .none, .dec false] ?_ ?_
                · apply prop_of ?_ hq
                  kernel_rfl
                refine XS.reAny [] (mkMask 49 [0, 1, 2, 33]) (decide (count > (65535 : Int))) h ?_
                kernel_rfl
      · rcases bif_some h with ⟨c18, h⟩ | ⟨c19, h⟩
        · have hq : (True) ∧ ((True) ∧ (((True) ∧ (op != (40 : Int)) = true) ∧ ((True) ∧ ((True) ∧ ((True) ∧ (((True) ∧ (op != (42 : Int)) = false) ∧ ((True) ∧ ((True) ∧ ((True) ∧ ((True) ∧ ((True) ∧ (((True) ∧ (decide (lba < (0 : Int))) = true) ∧ ((True) ∧ ((True) ∧ ((True) ∧ ((True) ∧ ((True) ∧ (True)))))))))))))))))) := ⟨trivial, ⟨trivial, ⟨⟨trivial, c6⟩, ⟨trivial, ⟨trivial, ⟨trivial, ⟨⟨trivial, c9⟩, ⟨trivial, ⟨trivial, ⟨trivial, ⟨trivial, ⟨trivial, ⟨⟨trivial, c18⟩, ⟨trivial, ⟨trivial, ⟨trivial, ⟨trivial, ⟨trivial, trivial⟩⟩⟩⟩⟩⟩⟩⟩⟩⟩⟩⟩⟩⟩⟩⟩⟩⟩
          refine TS.reg [.none, .none, .dec true, .none, .none, .none, .dec false, .none, .none, .none, .none, .none, .none, .none, .dec true] ?_ ?_
          · apply prop_of ?_ hq
            kernel_rfl
          refine XS.reAny [] (mkMask 49 [0, 1, 2, 33]) true h ?_
          kernel_rfl
        · rcases bif_some h with ⟨c20, h⟩ | ⟨c21, h⟩
          · have hq : (True) ∧ ((True) ∧ (((True) ∧ (op != (40 : Int)) = true) ∧ ((True) ∧ ((True) ∧ ((True) ∧ (((True) ∧ (op != (42 : Int)) = false) ∧ ((True) ∧ ((True) ∧ ((True) ∧ ((True) ∧ ((True) ∧ (((True) ∧ (decide (lba < (0 : Int))) = false) ∧ ((True) ∧ ((True) ∧ ((True) ∧ (((True) ∧ (decide (lba ≥ (4294967296 : Int))) = true) ∧ ((True) ∧ ((True) ∧ ((True) ∧ (True)))))))))))))))))))) := ⟨trivial, ⟨trivial, ⟨⟨trivial, c6⟩, ⟨trivial, ⟨trivial, ⟨trivial, ⟨⟨trivial, c9⟩, ⟨trivial, ⟨trivial, ⟨trivial, ⟨trivial, ⟨trivial, ⟨⟨trivial, c19⟩, ⟨trivial, ⟨trivial, ⟨trivial, ⟨⟨trivial, c20⟩, ⟨trivial, ⟨trivial, ⟨trivial, trivial⟩⟩⟩⟩⟩⟩⟩⟩⟩⟩⟩⟩⟩⟩⟩⟩⟩⟩⟩⟩
            refine TS.reg [.none, .none, .dec true, .none, .none, .none, .dec false, .none, .none, .none, .none, .none, .none, .none, .dec false, .none, .none, .none, .dec true] ?_ ?_
            · apply prop_of ?_ hq
              kernel_rfl
            refine XS.reAny [] (mkMask 49 [0, 1, 2, 33]) true h ?_
            kernel_rfl
          · rcases bif_some h with ⟨c22, h⟩ | ⟨c23, h⟩
            · have hq : (True) ∧ ((True) ∧ (((True) ∧ (op != (40 : Int)) = true) ∧ ((True) ∧ ((True) ∧ ((True) ∧ (((True) ∧ (op != (42 : Int)) = false) ∧ ((True) ∧ ((True) ∧ ((True) ∧ ((True) ∧ ((True) ∧ (((True) ∧ (decide (lba < (0 : Int))) = false) ∧ ((True) ∧ ((True) ∧ ((True) ∧ (((True) ∧ (decide (lba ≥ (4294967296 : Int))) = false) ∧ ((True) ∧ ((True) ∧ ((True) ∧ (((True) ∧ (decide (count < (0 : Int))) = true) ∧ ((True) ∧ (True)))))))))))))))))))))) := ⟨trivial, ⟨trivial, ⟨⟨trivial, c6⟩, ⟨trivial, ⟨trivial, ⟨trivial, ⟨⟨trivial, c9⟩, ⟨trivial, ⟨trivial, ⟨trivial, ⟨trivial, ⟨trivial, ⟨⟨trivial, c19⟩, ⟨trivial, ⟨trivial, ⟨trivial, ⟨⟨trivial, c21⟩, ⟨trivial, ⟨trivial, ⟨trivial, ⟨⟨trivial, c22⟩, ⟨trivial, trivial⟩⟩⟩⟩⟩⟩⟩⟩⟩⟩⟩⟩⟩⟩⟩⟩⟩⟩⟩⟩⟩⟩
              refine TS.reg [.none, .none, .dec true, .none, .none, .none, .dec false, .none, .none, .none, .none, .none, .none, .none, .dec false, .none, .none, .none, .dec false, .none, .none, .none, .dec true] ?_ ?_
              · apply prop_of ?_ hq
                kernel_rfl
              refine XS.reAny [] (mkMask 49 [0, 1, 2, 33]) true h ?_
              kernel_rfl
            · have hq : (True) ∧ ((True) ∧ (((True) ∧ (op != (40 : Int)) = true) ∧ ((True) ∧ ((True) ∧ ((True) ∧ (((True) ∧ (op != (42 : Int)) = false) ∧ ((True) ∧ ((True) ∧ ((True) ∧ ((True) ∧ ((True) ∧ (((True) ∧ (decide (lba < (0 : Int))) = false) ∧ ((True) ∧ ((True) ∧ ((True) ∧ (((True) ∧ (decide (lba ≥ (4294967296 : Int))) = false) ∧ ((True) ∧ ((True) ∧ ((True) ∧ (((True) ∧ (decide (count < (0 : Int))) = false) ∧ ((True) ∧ ((True) ∧ ((True) ∧ (True)))))))))))))))))))))))) := ⟨trivial, ⟨trivial, ⟨⟨trivial, c6⟩, ⟨trivial, ⟨trivial, ⟨trivial, ⟨⟨trivial, c9⟩, ⟨trivial, ⟨trivial, ⟨trivial, ⟨trivial, ⟨trivial, ⟨⟨trivial, c19⟩, ⟨trivial, ⟨trivial, ⟨trivial, ⟨⟨trivial, c21⟩, ⟨trivial, ⟨trivial, ⟨trivial, ⟨⟨trivial, c23⟩, ⟨trivial, ⟨trivial, ⟨trivial, trivial⟩⟩⟩⟩⟩⟩⟩⟩⟩⟩⟩⟩⟩⟩⟩⟩⟩⟩⟩⟩⟩⟩⟩⟩
              refine TS.reg [.none, .none, .dec true, .none, .none, .none, .dec false, .none, .none, .none, .none, .none, .none, .none, .dec false, .none, .none, .none, .dec false, .none, .none, .none, .dec false] ?_ ?_
              · apply prop_of ?_ hq
                kernel_rfl
              refine XS.reAny [] (mkMask 49 [0, 1, 2, 33]) (decide (count > (65535 : Int))) h ?_
              kernel_rfl
    · rcases bif_some h with ⟨c24, h⟩ | ⟨c25, h⟩
      · have hq : (True) ∧ ((True) ∧ (((True) ∧ (op != (40 : Int)) = false) ∧ ((True) ∧ ((True) ∧ ((True) ∧ ((True) ∧ ((True) ∧ ((True) ∧ ((True) ∧ (((True) ∧ (decide (lba < (0 : Int))) = true) ∧ ((True) ∧ ((True) ∧ ((True) ∧ ((True) ∧ ((True) ∧ (True)))))))))))))))) := ⟨trivial, ⟨trivial, ⟨⟨trivial, c7⟩, ⟨trivial, ⟨trivial, ⟨trivial, ⟨trivial, ⟨trivial, ⟨trivial, ⟨trivial, ⟨⟨trivial, c24⟩, ⟨trivial, ⟨trivial, ⟨trivial, ⟨trivial, ⟨trivial, trivial⟩⟩⟩⟩⟩⟩⟩⟩⟩⟩⟩⟩⟩⟩⟩⟩
        refine TS.reg [.none, .none, .dec false, .none, .none, .none, .none, .none, .none, .none, .none, .none, .none, .none, .dec true] ?_ ?_
        · apply prop_of ?_ hq
          kernel_rfl
        refine XS.reAny [] (mkMask 49 [0, 1, 2, 33]) true h ?_
        kernel_rfl
      · rcases bif_some h with ⟨c26, h⟩ | ⟨c27, h⟩
        · have hq : (True) ∧ ((True) ∧ (((True) ∧ (op != (40 : Int)) = false) ∧ ((True) ∧ ((True) ∧ ((True) ∧ ((True) ∧ ((True) ∧ ((True) ∧ ((True) ∧ (((True) ∧ (decide (lba < (0 : Int))) = false) ∧ ((True) ∧ ((True) ∧ ((True) ∧ (((True) ∧ (decide (lba ≥ (4294967296 : Int))) = true) ∧ ((True) ∧ ((True) ∧ ((True) ∧ (True)))))))))))))))))) := ⟨trivial, ⟨trivial, ⟨⟨trivial, c7⟩, ⟨trivial, ⟨trivial, ⟨trivial, ⟨trivial, ⟨trivial, ⟨trivial, ⟨trivial, ⟨⟨trivial, c25⟩, ⟨trivial, ⟨trivial, ⟨trivial, ⟨⟨trivial, c26⟩, ⟨trivial, ⟨trivial, ⟨trivial, trivial⟩⟩⟩⟩⟩⟩⟩⟩⟩⟩⟩⟩⟩⟩⟩⟩⟩⟩
          refine TS.reg [.none, .none, .dec false, .none, .none, .none, .none, .none, .none, .none, .none, .none, .none, .none, .dec false, .none, .none, .none, .dec true] ?_ ?_
          · apply prop_of ?_ hq
            kernel_rfl
          refine XS.reAny [] (mkMask 49 [0, 1, 2, 33]) true h ?_
          kernel_rfl
        · rcases bif_some h with ⟨c28, h⟩ | ⟨c29, h⟩
          · have hq : (True) ∧ ((True) ∧ (((True) ∧ (op != (40 : Int)) = false) ∧ ((True) ∧ ((True) ∧ ((True) ∧ ((True) ∧ ((True) ∧ ((True) ∧ ((True) ∧ (((True) ∧ (decide (lba < (0 : Int))) = false) ∧ ((True) ∧ ((True) ∧ ((True) ∧ (((True) ∧ (decide (lba ≥ (4294967296 : Int))) = false) ∧ ((True) ∧ ((True) ∧ ((True) ∧ (((True) ∧ (decide (count < (0 : Int))) = true) ∧ ((True) ∧ (True)))))))))))))))))))) := ⟨trivial, ⟨trivial, ⟨⟨trivial, c7⟩, ⟨trivial, ⟨trivial, ⟨trivial, ⟨trivial, ⟨trivial, ⟨trivial, ⟨trivial, ⟨⟨trivial, c25⟩, ⟨trivial, ⟨trivial, ⟨trivial, ⟨⟨trivial, c27⟩, ⟨trivial, ⟨trivial, ⟨trivial, ⟨⟨trivial, c28⟩, ⟨trivial, trivial⟩⟩⟩⟩⟩⟩⟩⟩⟩⟩⟩⟩⟩⟩⟩⟩⟩⟩⟩⟩
            refine TS.reg [.none, .none, .dec false, .none, .none, .none, .none, .none, .none, .none, .none, .none, .none, .none, .dec false, .none, .none, .none, .dec false, .none, .none, .none, .dec true] ?_ ?_
            · apply prop_of ?_ hq
              kernel_rfl
            refine XS.reAny [] (mkMask 49 [0, 1, 2, 33]) true h ?_
            kernel_rfl
          · have hq : (True) ∧ ((True) ∧ (((True) ∧ (op != (40 : Int)) = false) ∧ ((True) ∧ ((True) ∧ ((True) ∧ ((True) ∧ ((True) ∧ ((True) ∧ ((True) ∧ (((True) ∧ (decide (lba < (0 : Int))) = false) ∧ ((True) ∧ ((True) ∧ ((True) ∧ (((True) ∧ (decide (lba ≥ (4294967296 : Int))) = false) ∧ ((True) ∧ ((True) ∧ ((True) ∧ (((True) ∧ (decide (count < (0 : Int))) = false) ∧ ((True) ∧ ((True) ∧ ((True) ∧ (True)))))))))))))))))))))) := ⟨trivial, ⟨trivial, ⟨⟨trivial, c7⟩, ⟨trivial, ⟨trivial, ⟨trivial, ⟨trivial, ⟨trivial, ⟨trivial, ⟨trivial, ⟨⟨trivial, c25⟩, ⟨trivial, ⟨trivial, ⟨trivial, ⟨⟨trivial, c27⟩, ⟨trivial, ⟨trivial, ⟨trivial, ⟨⟨trivial, c29⟩, ⟨trivial, ⟨trivial, ⟨trivial, trivial⟩⟩⟩⟩⟩⟩⟩⟩⟩⟩⟩⟩⟩⟩⟩⟩⟩⟩⟩⟩⟩⟩
            refine TS.reg [.none, .none, .dec false, .none, .none, .none, .none, .none, .none, .none, .none, .none, .none, .none, .dec false, .none, .none, .none, .dec false, .none, .none, .none, .dec false] ?_ ?_
            · apply prop_of ?_ hq
              kernel_rfl
            refine XS.reAny [] (mkMask 49 [0, 1, 2, 33]) (decide (count > (65535 : Int))) h ?_
            kernel_rfl

/-! slices.Index[[]int,int] -/
def F161_l2 (n : Nat) (s : List Int) (v : Int) (k161_2 : Int → Option Int) : Int → Option Int
  | x => (bif (decide (x < ((s.length : Nat) : Int))) then (bif inb x s.length then (bif (v == (s.getD x.toNat (0 : Int))) then (some x) else (k161_2 (IntKind.wrap .i64 (x + (1 : Int))))) else none) else (some (-1 : Int)))
def F161 (n : Nat) (s : List Int) (v : Int) : Option Int := (loopF (F161_l2 n s v) n (0 : Int))
theorem F161_ok (n : Nat) (s : List Int) (v : Int) (r : Int) (h : F161 n s v = some r) : PureC Try.prog 161 [(.sl (.int .i64) s), (.int .i64 v)] (.int .i64 r) [] := by
  refine PureC.mkS Try.func161 rfl rfl ?_
  intro w0 fz0 hfz
  replace h : (loopF (F161_l2 n s v) n (0 : Int)) = some r := h
  refine TS.seq ?_
  have hq : (True) ∧ (True) := ⟨trivial, trivial⟩
  refine TS.reg [] ?_ ?_
  · apply prop_of ?_ hq
    kernel_rfl
  refine XS.then ?_
  refine TS.seq ?_
  refine TS.seq ?_
  have hq : (True) ∧ ((True) ∧ ((True) ∧ (True))) := ⟨trivial, ⟨trivial, ⟨trivial, trivial⟩⟩⟩
  refine TS.reg [] ?_ ?_
  · apply prop_of ?_ hq
    kernel_rfl
  refine XS.then ?_
  refine TS.block ?_
  refine TS.reLoop [] (mkMask 19 [0, 1, 7, 8]) (D := Int) (fun d => match d with | x => (mkTs 19 [(0, (.sl (.int .i64) s)), (1, (.int .i64 v)), (7, (.int .i64 ((s.length : Nat) : Int))), (8, (.int .i64 x))], [])) (fun n' d => loopF (F161_l2 n s v) n' d = some r) n (0 : Int) h ?_ (fun d => loopF_zero _ d r) ?_
  · kernel_rfl
  · rintro n2 x h
    replace h : (bif (decide (x < ((s.length : Nat) : Int))) then (bif inb x s.length then (bif (v == (s.getD x.toNat (0 : Int))) then (some x) else ((loopF (F161_l2 n s v) n2) (IntKind.wrap .i64 (x + (1 : Int))))) else none) else (some (-1 : Int))) = some r := h
    refine TS.seq ?_
    have hq : (True) ∧ (True) := ⟨trivial, trivial⟩
    refine TS.reg [] ?_ ?_
    · apply prop_of ?_ hq
      kernel_rfl
    refine XS.then ?_
    refine TS.seq ?_
    rcases bif_some h with ⟨c1, h⟩ | ⟨c2, h⟩
    · refine TS.cond (decide (x < ((s.length : Nat) : Int))) ?_ (fun hcz => ?_) (fun hcz => by rw [c1] at hcz; cases hcz)
      · kernel_rfl
      refine TS.skip ?_
      refine XS.then ?_
      refine TS.seq ?_
      refine TS.block ?_
      refine TS.seq ?_
      have hq : (True) ∧ ((True) ∧ (True)) := ⟨trivial, ⟨trivial, trivial⟩⟩
      refine TS.reg [] ?_ ?_
      · apply prop_of ?_ hq
        kernel_rfl
      refine XS.then ?_
      refine TS.seq ?_
      obtain ⟨t3, h⟩ := test_some h
      have hq : (True) ∧ ((True) ∧ ((True) ∧ ((inR x s.length) ∧ ((True) ∧ ((True) ∧ (True)))))) := ⟨trivial, ⟨trivial, ⟨trivial, ⟨inb_ok t3, ⟨trivial, ⟨trivial, trivial⟩⟩⟩⟩⟩⟩
      refine TS.reg [] ?_ ?_
      · apply prop_of ?_ hq
        kernel_rfl
      refine XS.then ?_
      rcases bif_some h with ⟨c4, h⟩ | ⟨c5, h⟩
      · refine TS.cond (v == (s.getD x.toNat (0 : Int))) ?_ (fun hcz => ?_) (fun hcz => by rw [c4] at hcz; cases hcz)
        · kernel_rfl
        refine TS.seq ?_
        have hq : (True) ∧ ((True) ∧ (True)) := ⟨trivial, ⟨trivial, trivial⟩⟩
        refine TS.reg [] ?_ ?_
        · apply prop_of ?_ hq
          kernel_rfl
        refine XS.then ?_
        refine TS.ret ?_
        refine XS.blockRet ?_
        refine XS.passR ?_
        refine XS.passR ?_
        refine XS.blockRet ?_
        refine XS.passR ?_
        obtain rfl : x = r := Option.some.inj h
        exact XS.fin [] ((True) ∧ (True)) (by kernel_rfl) ⟨trivial, trivial⟩
      · refine TS.cond (v == (s.getD x.toNat (0 : Int))) ?_ (fun hcz => by rw [c5] at hcz; cases hcz) (fun hcz => ?_)
        · kernel_rfl
        refine TS.skip ?_
        refine XS.blockEnd ?_
        refine XS.then ?_
        have hq : (True) ∧ ((True) ∧ (True)) := ⟨trivial, ⟨trivial, trivial⟩⟩
        refine TS.reg [] ?_ ?_
        · apply prop_of ?_ hq
          kernel_rfl
        refine XS.reAny [] (mkMask 19 [0, 1, 7, 8]) (IntKind.wrap .i64 (x + (1 : Int))) h ?_
        kernel_rfl
    · refine TS.cond (decide (x < ((s.length : Nat) : Int))) ?_ (fun hcz => by rw [c2] at hcz; cases hcz) (fun hcz => ?_)
      · kernel_rfl
      refine TS.exit ?_
      refine XS.passE ?_
      refine XS.passE ?_
      refine XS.out ?_
      refine XS.then ?_
      refine TS.seq ?_
      have hq : (True) ∧ (True) := ⟨trivial, trivial⟩
      refine TS.reg [] ?_ ?_
      · apply prop_of ?_ hq
        kernel_rfl
      refine XS.then ?_
      refine TS.ret ?_
      obtain rfl : (-1 : Int) = r := Option.some.inj h
      exact XS.fin [] ((True) ∧ (True)) (by kernel_rfl) ⟨trivial, trivial⟩

/-! slices.Contains[[]int,int] -/
def F109 (n : Nat) (s : List Int) (v : Int) : Option Bool := ((F161 n s v).bind fun y_2 => (some (decide (y_2 ≥ (0 : Int)))))
theorem F109_ok (n : Nat) (s : List Int) (v : Int) (r : Bool) (h : F109 n s v = some r) : PureC Try.prog 109 [(.sl (.int .i64) s), (.int .i64 v)] (.bool r) [] := by
  refine PureC.mkS Try.func109 rfl rfl ?_
  intro w0 fz0 hfz
  replace h : ((F161 n s v).bind fun y_2 => (some (decide (y_2 ≥ (0 : Int))))) = some r := h
  refine TS.seq ?_
  have hq : (True) ∧ (True) := ⟨trivial, trivial⟩
  refine TS.reg [] ?_ ?_
  · apply prop_of ?_ hq
    kernel_rfl
  refine XS.then ?_
  refine TS.seq ?_
  obtain ⟨y_2, hx1, h⟩ := bind_some' h
  have hq : (True) ∧ ((True) ∧ ((PureC Try.prog 161 [(.sl (.int .i64) s), (.int .i64 v)] (.int .i64 y_2) []) ∧ ((True) ∧ ((True) ∧ (True))))) := ⟨trivial, ⟨trivial, ⟨F161_ok n s v y_2 hx1, ⟨trivial, ⟨trivial, trivial⟩⟩⟩⟩⟩
  refine TS.reg [.none, .none, (.call (.int .i64 y_2) [])] ?_ ?_
  · apply prop_of ?_ hq
    kernel_rfl
  refine XS.then ?_
  refine TS.ret ?_
  obtain rfl : (decide (y_2 ≥ (0 : Int))) = r := Option.some.inj h
  exact XS.fin [] ((True) ∧ (True)) (by kernel_rfl) ⟨trivial, trivial⟩

/-! plugtree/plugref.Two -/
def F110_l2 (n : Nat) (k : Int) (k110_2 : (Int × Int) → Option Int) : (Int × Int) → Option Int
  | (vn, x) => (bif (decide (x < k)) then (k110_2 ((IntKind.wrap .i64 (vn * (2 : Int))), (IntKind.wrap .i64 (x + (1 : Int))))) else (some vn))
def F110 (n : Nat) (k : Int) : Option Int := (loopF (F110_l2 n k) n ((1 : Int), (0 : Int)))
theorem F110_ok (n : Nat) (k : Int) (r : Int) (h : F110 n k = some r) : PureC Try.prog 110 [(.int .i64 k)] (.int .i64 r) [] := by
  refine PureC.mkS Try.func110 rfl rfl ?_
  intro w0 fz0 hfz
  replace h : (loopF (F110_l2 n k) n ((1 : Int), (0 : Int))) = some r := h
  refine TS.seq ?_
  have hq : (True) ∧ (True) := ⟨trivial, trivial⟩
  refine TS.reg [] ?_ ?_
  · apply prop_of ?_ hq
    kernel_rfl
  refine XS.then ?_
  refine TS.seq ?_
  have hq : (True) ∧ (True) := ⟨trivial, trivial⟩
  refine TS.reg [] ?_ ?_
  · apply prop_of ?_ hq
    kernel_rfl
  refine XS.then ?_
  refine TS.seq ?_
  refine TS.seq ?_
  have hq : (True) ∧ ((True) ∧ (True)) := ⟨trivial, ⟨trivial, trivial⟩⟩
  refine TS.reg [] ?_ ?_
  · apply prop_of ?_ hq
    kernel_rfl
  refine XS.then ?_
  refine TS.block ?_
  refine TS.reLoop [] (mkMask 11 [3, 4, 5]) (D := Int × Int) (fun d => match d with | (vn, x) => (mkTs 11 [(3, (.int .i64 vn)), (4, (.int .i64 k)), (5, (.int .i64 x))], [])) (fun n' d => loopF (F110_l2 n k) n' d = some r) n ((1 : Int), (0 : Int)) h ?_ (fun d => loopF_zero _ d r) ?_
  · kernel_rfl
  · rintro n2 ⟨vn, x⟩ h
    replace h : (bif (decide (x < k)) then ((loopF (F110_l2 n k) n2) ((IntKind.wrap .i64 (vn * (2 : Int))), (IntKind.wrap .i64 (x + (1 : Int))))) else (some vn)) = some r := h
    refine TS.seq ?_
    have hq : (True) ∧ (True) := ⟨trivial, trivial⟩
    refine TS.reg [] ?_ ?_
    · apply prop_of ?_ hq
      kernel_rfl
    refine XS.then ?_
    refine TS.seq ?_
    rcases bif_some h with ⟨c1, h⟩ | ⟨c2, h⟩
    · refine TS.cond (decide (x < k)) ?_ (fun hcz => ?_) (fun hcz => by rw [c1] at hcz; cases hcz)
      · kernel_rfl
      refine TS.skip ?_
      refine XS.then ?_
      refine TS.seq ?_
      refine TS.block ?_
      have hq : (True) ∧ ((True) ∧ ((True) ∧ (True))) := ⟨trivial, ⟨trivial, ⟨trivial, trivial⟩⟩⟩
      refine TS.reg [] ?_ ?_
      · apply prop_of ?_ hq
        kernel_rfl
      refine XS.blockEnd ?_
      refine XS.then ?_
      have hq : (True) ∧ ((True) ∧ (True)) := ⟨trivial, ⟨trivial, trivial⟩⟩
      refine TS.reg [] ?_ ?_
      · apply prop_of ?_ hq
        kernel_rfl
      refine XS.reAny [] (mkMask 11 [3, 4, 5]) ((IntKind.wrap .i64 (vn * (2 : Int))), (IntKind.wrap .i64 (x + (1 : Int)))) h ?_
      kernel_rfl
    · refine TS.cond (decide (x < k)) ?_ (fun hcz => by rw [c2] at hcz; cases hcz) (fun hcz => ?_)
      · kernel_rfl
      refine TS.exit ?_
      refine XS.passE ?_
      refine XS.passE ?_
      refine XS.out ?_
      refine XS.then ?_
      refine TS.seq ?_
      have hq : (True) ∧ ((True) ∧ (True)) := ⟨trivial, ⟨trivial, trivial⟩⟩
      refine TS.reg [] ?_ ?_
      · apply prop_of ?_ hq
        kernel_rfl
      refine XS.then ?_
      refine TS.ret ?_
      obtain rfl : vn = r := Option.some.inj h
      exact XS.fin [] ((True) ∧ (True)) (by kernel_rfl) ⟨trivial, trivial⟩

/-! plugtree/plugref.High -/
def F111_l2 (n : Nat) (vn : Int) (k111_2 : (Int × (List UInt8) × Int) → Option (List UInt8)) : (Int × (List UInt8) × Int) → Option (List UInt8)
  | (x_2, vout, x_3) => (bif (decide (x_3 < vn)) then (bif (decide ((strOf [(IntKind.wrap .u8 ((x_2.tmod (256 : Int))))]).length + vout.length ≤ 9223372036854775807)) then (k111_2 ((IntKind.wrap .i64 (x_2.tdiv (256 : Int))), ((strOf [(IntKind.wrap .u8 ((x_2.tmod (256 : Int))))]) ++ vout), (IntKind.wrap .i64 (x_3 + (1 : Int))))) else none) else (some vout))
def F111 (n : Nat) (x : Int) (vn : Int) : Option (List UInt8) := (loopF (F111_l2 n vn) n (x, ([] : List UInt8), (0 : Int)))
theorem F111_ok (n : Nat) (x : Int) (vn : Int) (r : List UInt8) (h : F111 n x vn = some r) : PureC Try.prog 111 [(.int .i64 x), (.int .i64 vn)] (.str r) [] := by
  refine PureC.mkS Try.func111 rfl rfl ?_
  intro w0 fz0 hfz
  replace h : (loopF (F111_l2 n vn) n (x, ([] : List UInt8), (0 : Int))) = some r := h
  refine TS.seq ?_
  have hq : (True) ∧ (True) := ⟨trivial, trivial⟩
  refine TS.reg [] ?_ ?_
  · apply prop_of ?_ hq
    kernel_rfl
  refine XS.then ?_
  refine TS.seq ?_
  have hq : (True) ∧ (True) := ⟨trivial, trivial⟩
  refine TS.reg [] ?_ ?_
  · apply prop_of ?_ hq
    kernel_rfl
  refine XS.then ?_
  refine TS.seq ?_
  refine TS.seq ?_
  have hq : (True) ∧ ((True) ∧ (True)) := ⟨trivial, ⟨trivial, trivial⟩⟩
  refine TS.reg [] ?_ ?_
  · apply prop_of ?_ hq
    kernel_rfl
  refine XS.then ?_
  refine TS.block ?_
  refine TS.reLoop [] (mkMask 20 [0, 5, 6, 7]) (D := Int × (List UInt8) × Int) (fun d => match d with | (x_2, vout, x_3) => (mkTs 20 [(0, (.int .i64 x_2)), (5, (.str vout)), (6, (.int .i64 vn)), (7, (.int .i64 x_3))], [])) (fun n' d => loopF (F111_l2 n vn) n' d = some r) n (x, ([] : List UInt8), (0 : Int)) h ?_ (fun d => loopF_zero _ d r) ?_
  · kernel_rfl
  · rintro n2 ⟨x_2, vout, x_3⟩ h
    replace h : (bif (decide (x_3 < vn)) then (bif (decide ((strOf [(IntKind.wrap .u8 ((x_2.tmod (256 : Int))))]).length + vout.length ≤ 9223372036854775807)) then ((loopF (F111_l2 n vn) n2) ((IntKind.wrap .i64 (x_2.tdiv (256 : Int))), ((strOf [(IntKind.wrap .u8 ((x_2.tmod (256 : Int))))]) ++ vout), (IntKind.wrap .i64 (x_3 + (1 : Int))))) else none) else (some vout)) = some r := h
    refine TS.seq ?_
    have hq : (True) ∧ (True) := ⟨trivial, trivial⟩
    refine TS.reg [] ?_ ?_
    · apply prop_of ?_ hq
      kernel_rfl
    refine XS.then ?_
    refine TS.seq ?_
    rcases bif_some h with ⟨c1, h⟩ | ⟨c2, h⟩
    · refine TS.cond (decide (x_3 < vn)) ?_ (fun hcz => ?_) (fun hcz => by rw [c1] at hcz; cases hcz)
      · kernel_rfl
      refine TS.skip ?_
      refine XS.then ?_
      refine TS.seq ?_
      refine TS.block ?_
      refine TS.seq ?_
      obtain ⟨t3, h⟩ := test_some h
      have hq : (True) ∧ (((256 : Int) ≠ 0) ∧ ((True) ∧ (((0 < 1 ∧ True) ∧ (True)) ∧ ((True) ∧ ((True) ∧ (((strOf [(IntKind.wrap .u8 ((x_2.tmod (256 : Int))))]).length + vout.length ≤ 9223372036854775807) ∧ ((True) ∧ (True)))))))) := ⟨trivial, ⟨by decide, ⟨trivial, ⟨⟨⟨by decide, trivial⟩, trivial⟩, ⟨trivial, ⟨trivial, ⟨of_decide_eq_true t3, ⟨trivial, trivial⟩⟩⟩⟩⟩⟩⟩⟩
      refine TS.reg [] ?_ ?_
      · apply prop_of ?_ hq
        kernel_rfl
      refine XS.then ?_
      have hq : (True) ∧ (((256 : Int) ≠ 0) ∧ ((True) ∧ (True))) := ⟨trivial, ⟨by decide, ⟨trivial, trivial⟩⟩⟩
      refine TS.reg [] ?_ ?_
      · apply prop_of ?_ hq
        kernel_rfl
      refine XS.blockEnd ?_
      refine XS.then ?_
      have hq : (True) ∧ ((True) ∧ (True)) := ⟨trivial, ⟨trivial, trivial⟩⟩
      refine TS.reg [] ?_ ?_
      · apply prop_of ?_ hq
        kernel_rfl
      refine XS.reAny [] (mkMask 20 [0, 5, 6, 7]) ((IntKind.wrap .i64 (x_2.tdiv (256 : Int))), ((strOf [(IntKind.wrap .u8 ((x_2.tmod (256 : Int))))]) ++ vout), (IntKind.wrap .i64 (x_3 + (1 : Int)))) h ?_
      kernel_rfl
    · refine TS.cond (decide (x_3 < vn)) ?_ (fun hcz => by rw [c2] at hcz; cases hcz) (fun hcz => ?_)
      · kernel_rfl
      refine TS.exit ?_
      refine XS.passE ?_
      refine XS.passE ?_
      refine XS.out ?_
      refine XS.then ?_
      refine TS.seq ?_
      have hq : (True) ∧ ((True) ∧ (True)) := ⟨trivial, ⟨trivial, trivial⟩⟩
      refine TS.reg [] ?_ ?_
      · apply prop_of ?_ hq
        kernel_rfl
      refine XS.then ?_
      refine TS.ret ?_
      obtain rfl : vout = r := Option.some.inj h
      exact XS.fin [] ((True) ∧ (True)) (by kernel_rfl) ⟨trivial, trivial⟩

/-! plugtree/plugref.Made -/
def F43_j2 (n : Nat) (op : Int) (lba : Int) (count : Int) : Bool → Option ((List UInt8) × Int)
  | x => (bif x then (some (([] : List UInt8), (1 : Int))) else ((F111 n op (1 : Int)).bind fun y_3 => (bif (decide (y_3.length + ([0] : List UInt8).length ≤ 9223372036854775807)) then ((F111 n lba (4 : Int)).bind fun y_4 => (bif (decide ((y_3 ++ ([0] : List UInt8)).length + y_4.length ≤ 9223372036854775807)) then (bif (decide (((y_3 ++ ([0] : List UInt8)) ++ y_4).length + ([0] : List UInt8).length ≤ 9223372036854775807)) then ((F111 n count (2 : Int)).bind fun y_5 => (bif (decide ((((y_3 ++ ([0] : List UInt8)) ++ y_4) ++ ([0] : List UInt8)).length + y_5.length ≤ 9223372036854775807)) then (bif (decide (((((y_3 ++ ([0] : List UInt8)) ++ y_4) ++ ([0] : List UInt8)) ++ y_5).length + ([0] : List UInt8).length ≤ 9223372036854775807)) then (some ((((((y_3 ++ ([0] : List UInt8)) ++ y_4) ++ ([0] : List UInt8)) ++ y_5) ++ ([0] : List UInt8)), (0 : Int))) else none) else none)) else none) else none)) else none)))
def F43 (n : Nat) (op : Int) (lba : Int) (count : Int) : Option ((List UInt8) × Int) := ((F109 n [(40 : Int), (42 : Int), (53 : Int)] op).bind fun y_6 => (bif (!y_6) then (F43_j2 n op lba count true) else ((F110 n (32 : Int)).bind fun y_7 => ((F15 n lba (0 : Int) (IntKind.wrap .i64 (y_7 - (1 : Int)))).bind fun y_8 => (bif (!y_8) then (F43_j2 n op lba count true) else ((F15 n count (0 : Int) (65535 : Int)).bind fun y_9 => (F43_j2 n op lba count (!y_9))))))))
theorem F43_ok (n : Nat) (op : Int) (lba : Int) (count : Int) (r : (List UInt8) × Int) (h : F43 n op lba count = some r) : PureC Try.prog 43 [(.int .i64 op), (.int .i64 lba), (.int .i64 count)] (.tup (.cons (.str r.1) (.cons (.int .i64 r.2) .nil))) [] := by
  refine PureC.mkS Try.func43 rfl rfl ?_
  intro w0 fz0 hfz
  replace h : ((F109 n [(40 : Int), (42 : Int), (53 : Int)] op).bind fun y_6 => (bif (!y_6) then (F43_j2 n op lba count true) else ((F110 n (32 : Int)).bind fun y_7 => ((F15 n lba (0 : Int) (IntKind.wrap .i64 (y_7 - (1 : Int)))).bind fun y_8 => (bif (!y_8) then (F43_j2 n op lba count true) else ((F15 n count (0 : Int) (65535 : Int)).bind fun y_9 => (F43_j2 n op lba count (!y_9)))))))) = some r := h
  refine TS.seq ?_
  have hq : (True) ∧ ((True) ∧ (True)) := ⟨trivial, ⟨trivial, trivial⟩⟩
  refine TS.reg [] ?_ ?_
  · apply prop_of ?_ hq
    kernel_rfl
  refine XS.then ?_
  refine TS.seq ?_
  refine TS.seq ?_
  refine TS.cut (D := Bool) (fun d => match d with | x => (mkTs 35 [(0, (.int .i64 op)), (1, (.int .i64 lba)), (2, (.int .i64 count)), (23, (.bool x))], [])) (fun d => F43_j2 n op lba count d = some r) ?_ ?_
  · rintro x h
    replace h : (bif x then (some (([] : List UInt8), (1 : Int))) else ((F111 n op (1 : Int)).bind fun y_3 => (bif (decide (y_3.length + ([0] : List UInt8).length ≤ 9223372036854775807)) then ((F111 n lba (4 : Int)).bind fun y_4 => (bif (decide ((y_3 ++ ([0] : List UInt8)).length + y_4.length ≤ 9223372036854775807)) then (bif (decide (((y_3 ++ ([0] : List UInt8)) ++ y_4).length + ([0] : List UInt8).length ≤ 9223372036854775807)) then ((F111 n count (2 : Int)).bind fun y_5 => (bif (decide ((((y_3 ++ ([0] : List UInt8)) ++ y_4) ++ ([0] : List UInt8)).length + y_5.length ≤ 9223372036854775807)) then (bif (decide (((((y_3 ++ ([0] : List UInt8)) ++ y_4) ++ ([0] : List UInt8)) ++ y_5).length + ([0] : List UInt8).length ≤ 9223372036854775807)) then (some ((((((y_3 ++ ([0] : List UInt8)) ++ y_4) ++ ([0] : List UInt8)) ++ y_5) ++ ([0] : List UInt8)), (0 : Int))) else none) else none)) else none) else none)) else none))) = some r := h
    refine XS.then ?_
    rcases bif_some h with ⟨c1, h⟩ | ⟨c2, h⟩
    · refine TS.cond x ?_ (fun hcz => ?_) (fun hcz => by rw [c1] at hcz; cases hcz)
      · kernel_rfl
      refine TS.seq ?_
      have hq : (True) ∧ ((True) ∧ (True)) := ⟨trivial, ⟨trivial, trivial⟩⟩
      refine TS.reg [] ?_ ?_
      · apply prop_of ?_ hq
        kernel_rfl
      refine XS.then ?_
      refine TS.ret ?_
      refine XS.passR ?_
      obtain rfl : (([] : List UInt8), (1 : Int)) = r := Option.some.inj h
      exact XS.fin [] ((True) ∧ ((True) ∧ (True))) (by kernel_rfl) ⟨trivial, ⟨trivial, trivial⟩⟩
    · refine TS.cond x ?_ (fun hcz => by rw [c2] at hcz; cases hcz) (fun hcz => ?_)
      · kernel_rfl
      refine TS.skip ?_
      refine XS.then ?_
      refine TS.seq ?_
      obtain ⟨y_3, hx3, h⟩ := bind_some' h
      obtain ⟨t4, h⟩ := test_some h
      obtain ⟨y_4, hx5, h⟩ := bind_some' h
      obtain ⟨t6, h⟩ := test_some h
      obtain ⟨t7, h⟩ := test_some h
      obtain ⟨y_5, hx8, h⟩ := bind_some' h
      obtain ⟨t9, h⟩ := test_some h
      obtain ⟨t10, h⟩ := test_some h
      have hq : (True) ∧ ((PureC Try.prog 111 [(.int .i64 op), (.int .i64 (1 : Int))] (.str y_3) []) ∧ ((y_3.length + ([0] : List UInt8).length ≤ 9223372036854775807) ∧ ((True) ∧ ((PureC Try.prog 111 [(.int .i64 lba), (.int .i64 (4 : Int))] (.str y_4) []) ∧ (((y_3 ++ ([0] : List UInt8)).length + y_4.length ≤ 9223372036854775807) ∧ ((((y_3 ++ ([0] : List UInt8)) ++ y_4).length + ([0] : List UInt8).length ≤ 9223372036854775807) ∧ ((True) ∧ ((PureC Try.prog 111 [(.int .i64 count), (.int .i64 (2 : Int))] (.str y_5) []) ∧ (((((y_3 ++ ([0] : List UInt8)) ++ y_4) ++ ([0] : List UInt8)).length + y_5.length ≤ 9223372036854775807) ∧ ((((((y_3 ++ ([0] : List UInt8)) ++ y_4) ++ ([0] : List UInt8)) ++ y_5).length + ([0] : List UInt8).length ≤ 9223372036854775807) ∧ ((True) ∧ ((True) ∧ (True))))))))))))) := ⟨trivial, ⟨F111_ok n op (1 : Int) y_3 hx3, ⟨of_decide_eq_true t4, ⟨trivial, ⟨F111_ok n lba (4 : Int) y_4 hx5, ⟨of_decide_eq_true t6, ⟨of_decide_eq_true t7, ⟨trivial, ⟨F111_ok n count (2 : Int) y_5 hx8, ⟨of_decide_eq_true t9, ⟨of_decide_eq_true t10, ⟨trivial, ⟨trivial, trivial⟩⟩⟩⟩⟩⟩⟩⟩⟩⟩⟩⟩⟩
      refine TS.reg [.none, (.call (.str y_3) []), .none, .none, (.call (.str y_4) []), .none, .none, .none, (.call (.str y_5) [])] ?_ ?_
      · apply prop_of ?_ hq
        kernel_rfl
      refine XS.then ?_
      refine TS.ret ?_
      obtain rfl : ((((((y_3 ++ ([0] : List UInt8)) ++ y_4) ++ ([0] : List UInt8)) ++ y_5) ++ ([0] : List UInt8)), (0 : Int)) = r := Option.some.inj h
      exact XS.fin [] ((True) ∧ ((True) ∧ (True))) (by kernel_rfl) ⟨trivial, ⟨trivial, trivial⟩⟩
  · obtain ⟨y_6, hx11, h⟩ := bind_some' h
    rcases bif_some h with ⟨c12, h⟩ | ⟨c13, h⟩
    · have hq : ((0 < 3 ∧ True) ∧ ((1 < 3 ∧ True) ∧ ((2 < 3 ∧ True) ∧ (True)))) ∧ ((True) ∧ ((((True) ∧ ((True) ∧ (True))) ∧ PureC Try.prog 109 [(.sl (.int .i64) [(40 : Int), (42 : Int), (53 : Int)]), (.int .i64 op)] (.bool y_6) []) ∧ ((True) ∧ (((True) ∧ (!y_6) = true) ∧ ((True) ∧ ((True) ∧ ((True) ∧ (True)))))))) := ⟨⟨⟨by decide, trivial⟩, ⟨⟨by decide, trivial⟩, ⟨⟨by decide, trivial⟩, trivial⟩⟩⟩, ⟨trivial, ⟨⟨⟨trivial, ⟨trivial, trivial⟩⟩, F109_ok n [(40 : Int), (42 : Int), (53 : Int)] op y_6 hx11⟩, ⟨trivial, ⟨⟨trivial, c12⟩, ⟨trivial, ⟨trivial, ⟨trivial, trivial⟩⟩⟩⟩⟩⟩⟩⟩
      refine TS.reg [.none, .none, (.call (.bool y_6) []), .none, .dec true] ?_ ?_
      · apply prop_of ?_ hq
        kernel_rfl
      refine XS.reAny [] (mkMask 35 [0, 1, 2, 23]) true h ?_
      kernel_rfl
    · obtain ⟨y_7, hx14, h⟩ := bind_some' h
      obtain ⟨y_8, hx15, h⟩ := bind_some' h
      rcases bif_some h with ⟨c16, h⟩ | ⟨c17, h⟩
      · have hq : ((0 < 3 ∧ True) ∧ ((1 < 3 ∧ True) ∧ ((2 < 3 ∧ True) ∧ (True)))) ∧ ((True) ∧ ((((True) ∧ ((True) ∧ (True))) ∧ PureC Try.prog 109 [(.sl (.int .i64) [(40 : Int), (42 : Int), (53 : Int)]), (.int .i64 op)] (.bool y_6) []) ∧ ((True) ∧ (((True) ∧ (!y_6) = false) ∧ ((True) ∧ ((PureC Try.prog 110 [(.int .i64 (32 : Int))] (.int .i64 y_7) []) ∧ ((True) ∧ ((PureC Try.prog 15 [(.int .i64 lba), (.int .i64 (0 : Int)), (.int .i64 (IntKind.wrap .i64 (y_7 - (1 : Int))))] (.bool y_8) []) ∧ ((True) ∧ ((True) ∧ (((True) ∧ (!y_8) = true) ∧ ((True) ∧ (True))))))))))))) := ⟨⟨⟨by decide, trivial⟩, ⟨⟨by decide, trivial⟩, ⟨⟨by decide, trivial⟩, trivial⟩⟩⟩, ⟨trivial, ⟨⟨⟨trivial, ⟨trivial, trivial⟩⟩, F109_ok n [(40 : Int), (42 : Int), (53 : Int)] op y_6 hx11⟩, ⟨trivial, ⟨⟨trivial, c13⟩, ⟨trivial, ⟨F110_ok n (32 : Int) y_7 hx14, ⟨trivial, ⟨F15_ok n lba (0 : Int) (IntKind.wrap .i64 (y_7 - (1 : Int))) y_8 hx15, ⟨trivial, ⟨trivial, ⟨⟨trivial, c16⟩, ⟨trivial, trivial⟩⟩⟩⟩⟩⟩⟩⟩⟩⟩⟩⟩⟩
        refine TS.reg [.none, .none, (.call (.bool y_6) []), .none, .dec false, .none, (.call (.int .i64 y_7) []), .none, (.call (.bool y_8) []), .none, .none, .dec true] ?_ ?_
        · apply prop_of ?_ hq
          kernel_rfl
        refine XS.reAny [] (mkMask 35 [0, 1, 2, 23]) true h ?_
        kernel_rfl
      · obtain ⟨y_9, hx18, h⟩ := bind_some' h
        have hq : ((0 < 3 ∧ True) ∧ ((1 < 3 ∧ True) ∧ ((2 < 3 ∧ True) ∧ (True)))) ∧ ((True) ∧ ((((True) ∧ ((True) ∧ (True))) ∧ PureC Try.prog 109 [(.sl (.int .i64) [(40 : Int), (42 : Int), (53 : Int)]), (.int .i64 op)] (.bool y_6) []) ∧ ((True) ∧ (((True) ∧ (!y_6) = false) ∧ ((True) ∧ ((PureC Try.prog 110 [(.int .i64 (32 : Int))] (.int .i64 y_7) []) ∧ ((True) ∧ ((PureC Try.prog 15 [(.int .i64 lba), (.int .i64 (0 : Int)), (.int .i64 (IntKind.wrap .i64 (y_7 - (1 : Int))))] (.bool y_8) []) ∧ ((True) ∧ ((True) ∧ (((True) ∧ (!y_8) = false) ∧ ((True) ∧ ((PureC Try.prog 15 [(.int .i64 count), (.int .i64 (0 : Int)), (.int .i64 (65535 : Int))] (.bool y_9) []) ∧ ((True) ∧ ((True) ∧ (True)))))))))))))))) := ⟨⟨⟨by decide, trivial⟩, ⟨⟨by decide, trivial⟩, ⟨⟨by decide, trivial⟩, trivial⟩⟩⟩, ⟨trivial, ⟨⟨⟨trivial, ⟨trivial, trivial⟩⟩, F109_ok n [(40 : Int), (42 : Int), (53 : Int)] op y_6 hx11⟩, ⟨trivial, ⟨⟨trivial, c13⟩, ⟨trivial, ⟨F110_ok n (32 : Int) y_7 hx14, ⟨trivial, ⟨F15_ok n lba (0 : Int) (IntKind.wrap .i64 (y_7 - (1 : Int))) y_8 hx15, ⟨trivial, ⟨trivial, ⟨⟨trivial, c17⟩, ⟨trivial, ⟨F15_ok n count (0 : Int) (65535 : Int) y_9 hx18, ⟨trivial, ⟨trivial, trivial⟩⟩⟩⟩⟩⟩⟩⟩⟩⟩⟩⟩⟩⟩⟩⟩
        refine TS.reg [.none, .none, (.call (.bool y_6) []), .none, .dec false, .none, (.call (.int .i64 y_7) []), .none, (.call (.bool y_8) []), .none, .none, .dec false, .none, (.call (.bool y_9) [])] ?_ ?_
        · apply prop_of ?_ hq
          kernel_rfl
        refine XS.reAny [] (mkMask 35 [0, 1, 2, 23]) (!y_9) h ?_
        kernel_rfl

/-! slices.Equal[[]string,string] -/
def F112_l2 (n : Nat) (s1 : List (List UInt8)) (s2 : List (List UInt8)) (k112_2 : Int → Option Bool) : Int → Option Bool
  | x => (bif (decide (x < ((s1.length : Nat) : Int))) then (bif inb x s1.length then (bif inb x s2.length then (bif (!((s1.getD x.toNat ([] : List UInt8)) == (s2.getD x.toNat ([] : List UInt8)))) then (some false) else (k112_2 (IntKind.wrap .i64 (x + (1 : Int))))) else none) else none) else (some true))
def F112 (n : Nat) (s1 : List (List UInt8)) (s2 : List (List UInt8)) : Option Bool := (bif (((s1.length : Nat) : Int) != ((s2.length : Nat) : Int)) then (some false) else (loopF (F112_l2 n s1 s2) n (0 : Int)))
theorem F112_ok (n : Nat) (s1 : List (List UInt8)) (s2 : List (List UInt8)) (r : Bool) (h : F112 n s1 s2 = some r) : PureC Try.prog 112 [(.sl .str s1), (.sl .str s2)] (.bool r) [] := by
  refine PureC.mkS Try.func112 rfl rfl ?_
  intro w0 fz0 hfz
  replace h : (bif (((s1.length : Nat) : Int) != ((s2.length : Nat) : Int)) then (some false) else (loopF (F112_l2 n s1 s2) n (0 : Int))) = some r := h
  refine TS.seq ?_
  have hq : (True) ∧ (True) := ⟨trivial, trivial⟩
  refine TS.reg [] ?_ ?_
  · apply prop_of ?_ hq
    kernel_rfl
  refine XS.then ?_
  refine TS.seq ?_
  refine TS.seq ?_
  have hq : (True) ∧ ((True) ∧ ((True) ∧ ((True) ∧ ((True) ∧ (True))))) := ⟨trivial, ⟨trivial, ⟨trivial, ⟨trivial, ⟨trivial, trivial⟩⟩⟩⟩⟩
  refine TS.reg [] ?_ ?_
  · apply prop_of ?_ hq
    kernel_rfl
  refine XS.then ?_
  rcases bif_some h with ⟨c1, h⟩ | ⟨c2, h⟩
  · refine TS.cond (((s1.length : Nat) : Int) != ((s2.length : Nat) : Int)) ?_ (fun hcz => ?_) (fun hcz => by rw [c1] at hcz; cases hcz)
    · kernel_rfl
    refine TS.seq ?_
    have hq : (True) ∧ (True) := ⟨trivial, trivial⟩
    refine TS.reg [] ?_ ?_
    · apply prop_of ?_ hq
      kernel_rfl
    refine XS.then ?_
    refine TS.ret ?_
    refine XS.passR ?_
    obtain rfl : false = r := Option.some.inj h
    exact XS.fin [] ((True) ∧ (True)) (by kernel_rfl) ⟨trivial, trivial⟩
  · refine TS.cond (((s1.length : Nat) : Int) != ((s2.length : Nat) : Int)) ?_ (fun hcz => by rw [c2] at hcz; cases hcz) (fun hcz => ?_)
    · kernel_rfl
    refine TS.skip ?_
    refine XS.then ?_
    refine TS.seq ?_
    refine TS.seq ?_
    have hq : (True) ∧ ((True) ∧ ((True) ∧ (True))) := ⟨trivial, ⟨trivial, ⟨trivial, trivial⟩⟩⟩
    refine TS.reg [] ?_ ?_
    · apply prop_of ?_ hq
      kernel_rfl
    refine XS.then ?_
    refine TS.block ?_
    refine TS.reLoop [] (mkMask 26 [0, 1, 12, 13]) (D := Int) (fun d => match d with | x => (mkTs 26 [(0, (.sl .str s1)), (1, (.sl .str s2)), (12, (.int .i64 ((s1.length : Nat) : Int))), (13, (.int .i64 x))], [])) (fun n' d => loopF (F112_l2 n s1 s2) n' d = some r) n (0 : Int) h ?_ (fun d => loopF_zero _ d r) ?_
    · kernel_rfl
    · rintro n2 x h
      replace h : (bif (decide (x < ((s1.length : Nat) : Int))) then (bif inb x s1.length then (bif inb x s2.length then (bif (!((s1.getD x.toNat ([] : List UInt8)) == (s2.getD x.toNat ([] : List UInt8)))) then (some false) else ((loopF (F112_l2 n s1 s2) n2) (IntKind.wrap .i64 (x + (1 : Int))))) else none) else none) else (some true)) = some r := h
      refine TS.seq ?_
      have hq : (True) ∧ (True) := ⟨trivial, trivial⟩
      refine TS.reg [] ?_ ?_
      · apply prop_of ?_ hq
        kernel_rfl
      refine XS.then ?_
      refine TS.seq ?_
      rcases bif_some h with ⟨c3, h⟩ | ⟨c4, h⟩
      · refine TS.cond (decide (x < ((s1.length : Nat) : Int))) ?_ (fun hcz => ?_) (fun hcz => by rw [c3] at hcz; cases hcz)
        · kernel_rfl
        refine TS.skip ?_
        refine XS.then ?_
        refine TS.seq ?_
        refine TS.block ?_
        refine TS.seq ?_
        have hq : (True) ∧ ((True) ∧ (True)) := ⟨trivial, ⟨trivial, trivial⟩⟩
        refine TS.reg [] ?_ ?_
        · apply prop_of ?_ hq
          kernel_rfl
        refine XS.then ?_
        refine TS.seq ?_
        obtain ⟨t5, h⟩ := test_some h
        obtain ⟨t6, h⟩ := test_some h
        have hq : ((True) ∧ ((True) ∧ ((inR x s1.length) ∧ ((True) ∧ ((True) ∧ ((True) ∧ ((inR x s2.length) ∧ ((True) ∧ ((True) ∧ (True)))))))))) ∧ (True) := ⟨⟨trivial, ⟨trivial, ⟨inb_ok t5, ⟨trivial, ⟨trivial, ⟨trivial, ⟨inb_ok t6, ⟨trivial, ⟨trivial, trivial⟩⟩⟩⟩⟩⟩⟩⟩⟩, trivial⟩
        refine TS.draw 9 [] [] (by kernel_rfl) ?_ ?_
        · apply prop_of ?_ hq
          kernel_rfl
        refine XS.then ?_
        rcases bif_some h with ⟨c7, h⟩ | ⟨c8, h⟩
        · refine TS.cond (!((s1.getD x.toNat ([] : List UInt8)) == (s2.getD x.toNat ([] : List UInt8)))) ?_ (fun hcz => ?_) (fun hcz => by rw [c7] at hcz; cases hcz)
          · kernel_rfl
          refine TS.seq ?_
          have hq : (True) ∧ (True) := ⟨trivial, trivial⟩
          refine TS.reg [] ?_ ?_
          · apply prop_of ?_ hq
            kernel_rfl
          refine XS.then ?_
          refine TS.ret ?_
          refine XS.blockRet ?_
          refine XS.passR ?_
          refine XS.passR ?_
          refine XS.blockRet ?_
          refine XS.passR ?_
          obtain rfl : false = r := Option.some.inj h
          exact XS.fin [] ((True) ∧ (True)) (by kernel_rfl) ⟨trivial, trivial⟩
        · refine TS.cond (!((s1.getD x.toNat ([] : List UInt8)) == (s2.getD x.toNat ([] : List UInt8)))) ?_ (fun hcz => by rw [c8] at hcz; cases hcz) (fun hcz => ?_)
          · kernel_rfl
          refine TS.skip ?_
          refine XS.blockEnd ?_
          refine XS.then ?_
          have hq : (True) ∧ ((True) ∧ (True)) := ⟨trivial, ⟨trivial, trivial⟩⟩
          refine TS.reg [] ?_ ?_
          · apply prop_of ?_ hq
            kernel_rfl
          refine XS.reAny [] (mkMask 26 [0, 1, 12, 13]) (IntKind.wrap .i64 (x + (1 : Int))) h ?_
          kernel_rfl
      · refine TS.cond (decide (x < ((s1.length : Nat) : Int))) ?_ (fun hcz => by rw [c4] at hcz; cases hcz) (fun hcz => ?_)
        · kernel_rfl
        refine TS.exit ?_
        refine XS.passE ?_
        refine XS.passE ?_
        refine XS.out ?_
        refine XS.then ?_
        refine TS.seq ?_
        have hq : (True) ∧ (True) := ⟨trivial, trivial⟩
        refine TS.reg [] ?_ ?_
        · apply prop_of ?_ hq
          kernel_rfl
        refine XS.then ?_
        refine TS.ret ?_
        obtain rfl : true = r := Option.some.inj h
        exact XS.fin [] ((True) ∧ (True)) (by kernel_rfl) ⟨trivial, trivial⟩

/-! plugtree/plugref.SameDisk -/
def F44 (n : Nat) (a_Blocks : List (List UInt8)) (a_Sense : Int) (b_Blocks : List (List UInt8)) (b_Sense : Int) : Option Bool := (bif (a_Sense == b_Sense) then ((F112 n a_Blocks b_Blocks).bind fun y_2 => (some y_2)) else (some false))
theorem F44_ok (n : Nat) (a_Blocks : List (List UInt8)) (a_Sense : Int) (b_Blocks : List (List UInt8)) (b_Sense : Int) (r : Bool) (h : F44 n a_Blocks a_Sense b_Blocks b_Sense = some r) : PureC Try.prog 44 [(.st (.cons (.sl .str a_Blocks) (.int .i64 a_Sense))), (.st (.cons (.sl .str b_Blocks) (.int .i64 b_Sense)))] (.bool r) [] := by
  refine PureC.mkS Try.func44 rfl rfl ?_
  intro w0 fz0 hfz
  replace h : (bif (a_Sense == b_Sense) then ((F112 n a_Blocks b_Blocks).bind fun y_2 => (some y_2)) else (some false)) = some r := h
  refine TS.seq ?_
  have hq : (True) ∧ ((True) ∧ ((True) ∧ (True))) := ⟨trivial, ⟨trivial, ⟨trivial, trivial⟩⟩⟩
  refine TS.reg [] ?_ ?_
  · apply prop_of ?_ hq
    kernel_rfl
  refine XS.then ?_
  refine TS.seq ?_
  rcases bif_some h with ⟨c1, h⟩ | ⟨c2, h⟩
  · obtain ⟨y_2, hx3, h⟩ := bind_some' h
    have hq : (True) ∧ ((True) ∧ ((True) ∧ ((True) ∧ ((True) ∧ (((True) ∧ (a_Sense == b_Sense) = true) ∧ ((True) ∧ ((True) ∧ ((True) ∧ ((True) ∧ ((PureC Try.prog 112 [(.sl .str a_Blocks), (.sl .str b_Blocks)] (.bool y_2) []) ∧ ((True) ∧ ((True) ∧ (True))))))))))))) := ⟨trivial, ⟨trivial, ⟨trivial, ⟨trivial, ⟨trivial, ⟨⟨trivial, c1⟩, ⟨trivial, ⟨trivial, ⟨trivial, ⟨trivial, ⟨F112_ok n a_Blocks b_Blocks y_2 hx3, ⟨trivial, ⟨trivial, trivial⟩⟩⟩⟩⟩⟩⟩⟩⟩⟩⟩⟩⟩
    refine TS.reg [.none, .none, .none, .none, .none, .dec true, .none, .none, .none, .none, (.call (.bool y_2) [])] ?_ ?_
    · apply prop_of ?_ hq
      kernel_rfl
    refine XS.then ?_
    refine TS.ret ?_
    obtain rfl : y_2 = r := Option.some.inj h
    exact XS.fin [] ((True) ∧ (True)) (by kernel_rfl) ⟨trivial, trivial⟩
  · have hq : (True) ∧ ((True) ∧ ((True) ∧ ((True) ∧ ((True) ∧ (((True) ∧ (a_Sense == b_Sense) = false) ∧ ((True) ∧ ((True) ∧ (True)))))))) := ⟨trivial, ⟨trivial, ⟨trivial, ⟨trivial, ⟨trivial, ⟨⟨trivial, c2⟩, ⟨trivial, ⟨trivial, trivial⟩⟩⟩⟩⟩⟩⟩⟩
    refine TS.reg [.none, .none, .none, .none, .none, .dec false] ?_ ?_
    · apply prop_of ?_ hq
      kernel_rfl
    refine XS.then ?_
    refine TS.ret ?_
    obtain rfl : false = r := Option.some.inj h
    exact XS.fin [] ((True) ∧ (True)) (by kernel_rfl) ⟨trivial, trivial⟩

/-! plugtree/scsi.Check -/
def F45_l2 (n : Nat) (d_Blocks : List (List UInt8)) (d_Sense : Int) (k45_2 : Int → Option Int) : Int → Option Int
  | x => (bif (decide (x < ((d_Blocks.length : Nat) : Int))) then (bif inb x d_Blocks.length then (bif ((((d_Blocks.getD x.toNat ([] : List UInt8)).length : Nat) : Int) != (16 : Int)) then (some (4 : Int)) else (k45_2 (IntKind.wrap .i64 (x + (1 : Int))))) else none) else ((F109 n [(0 : Int), (32 : Int), (33 : Int), (36 : Int)] d_Sense).bind fun y_2 => (bif (!y_2) then (some (4 : Int)) else (some (0 : Int)))))
def F45 (n : Nat) (d_Blocks : List (List UInt8)) (d_Sense : Int) : Option Int := (bif (decide (((d_Blocks.length : Nat) : Int) < (1 : Int))) then (some (1 : Int)) else (bif (decide (((d_Blocks.length : Nat) : Int) > (64 : Int))) then (some (1 : Int)) else (loopF (F45_l2 n d_Blocks d_Sense) n (0 : Int))))
theorem F45_ok (n : Nat) (d_Blocks : List (List UInt8)) (d_Sense : Int) (r : Int) (h : F45 n d_Blocks d_Sense = some r) : PureC Try.prog 45 [(.st (.cons (.sl .str d_Blocks) (.int .i64 d_Sense)))] (.int .i64 r) [] := by
  refine PureC.mkS Try.func45 rfl rfl ?_
  intro w0 fz0 hfz
  replace h : (bif (decide (((d_Blocks.length : Nat) : Int) < (1 : Int))) then (some (1 : Int)) else (bif (decide (((d_Blocks.length : Nat) : Int) > (64 : Int))) then (some (1 : Int)) else (loopF (F45_l2 n d_Blocks d_Sense) n (0 : Int)))) = some r := h
  refine TS.seq ?_
  have hq : (True) ∧ ((True) ∧ (True)) := ⟨trivial, ⟨trivial, trivial⟩⟩
  refine TS.reg [] ?_ ?_
  · apply prop_of ?_ hq
    kernel_rfl
  refine XS.then ?_
  refine TS.seq ?_
  refine TS.seq ?_
  rcases bif_some h with ⟨c1, h⟩ | ⟨c2, h⟩
  · have hq : (True) ∧ ((True) ∧ ((True) ∧ ((True) ∧ (((True) ∧ (decide (((d_Blocks.length : Nat) : Int) < (1 : Int))) = true) ∧ ((True) ∧ (True)))))) := ⟨trivial, ⟨trivial, ⟨trivial, ⟨trivial, ⟨⟨trivial, c1⟩, ⟨trivial, trivial⟩⟩⟩⟩⟩⟩
    refine TS.reg [.none, .none, .none, .none, .dec true] ?_ ?_
    · apply prop_of ?_ hq
      kernel_rfl
    refine XS.then ?_
    refine TS.yes ?_ ?_
    · kernel_rfl
    refine TS.seq ?_
    have hq : (True) ∧ (True) := ⟨trivial, trivial⟩
    refine TS.reg [] ?_ ?_
    · apply prop_of ?_ hq
      kernel_rfl
    refine XS.then ?_
    refine TS.ret ?_
    refine XS.passR ?_
    obtain rfl : (1 : Int) = r := Option.some.inj h
    exact XS.fin [] ((True) ∧ (True)) (by kernel_rfl) ⟨trivial, trivial⟩
  · have hq : (True) ∧ ((True) ∧ ((True) ∧ ((True) ∧ (((True) ∧ (decide (((d_Blocks.length : Nat) : Int) < (1 : Int))) = false) ∧ ((True) ∧ ((True) ∧ ((True) ∧ ((True) ∧ ((True) ∧ (True)))))))))) := ⟨trivial, ⟨trivial, ⟨trivial, ⟨trivial, ⟨⟨trivial, c2⟩, ⟨trivial, ⟨trivial, ⟨trivial, ⟨trivial, ⟨trivial, trivial⟩⟩⟩⟩⟩⟩⟩⟩⟩⟩
    refine TS.reg [.none, .none, .none, .none, .dec false] ?_ ?_
    · apply prop_of ?_ hq
      kernel_rfl
    refine XS.then ?_
    rcases bif_some h with ⟨c3, h⟩ | ⟨c4, h⟩
    · refine TS.cond (decide (((d_Blocks.length : Nat) : Int) > (64 : Int))) ?_ (fun hcz => ?_) (fun hcz => by rw [c3] at hcz; cases hcz)
      · kernel_rfl
      refine TS.seq ?_
      have hq : (True) ∧ (True) := ⟨trivial, trivial⟩
      refine TS.reg [] ?_ ?_
      · apply prop_of ?_ hq
        kernel_rfl
      refine XS.then ?_
      refine TS.ret ?_
      refine XS.passR ?_
      obtain rfl : (1 : Int) = r := Option.some.inj h
      exact XS.fin [] ((True) ∧ (True)) (by kernel_rfl) ⟨trivial, trivial⟩
    · refine TS.cond (decide (((d_Blocks.length : Nat) : Int) > (64 : Int))) ?_ (fun hcz => by rw [c4] at hcz; cases hcz) (fun hcz => ?_)
      · kernel_rfl
      refine TS.skip ?_
      refine XS.then ?_
      refine TS.seq ?_
      refine TS.seq ?_
      have hq : (True) ∧ ((True) ∧ ((True) ∧ ((True) ∧ (True)))) := ⟨trivial, ⟨trivial, ⟨trivial, ⟨trivial, trivial⟩⟩⟩⟩
      refine TS.reg [] ?_ ?_
      · apply prop_of ?_ hq
        kernel_rfl
      refine XS.then ?_
      refine TS.block ?_
      refine TS.reLoop [0] (mkMask 31 [1, 16, 17, 18]) (D := Int) (fun d => match d with | x => (mkTs 31 [(1, (.ptr 0 [])), (16, (.sl .str d_Blocks)), (17, (.int .i64 ((d_Blocks.length : Nat) : Int))), (18, (.int .i64 x))], [(.box 76 (.st (.cons (.sl .str d_Blocks) (.int .i64 d_Sense))))])) (fun n' d => loopF (F45_l2 n d_Blocks d_Sense) n' d = some r) n (0 : Int) h ?_ (fun d => loopF_zero _ d r) ?_
      · kernel_rfl
      · rintro n2 x h
        replace h : (bif (decide (x < ((d_Blocks.length : Nat) : Int))) then (bif inb x d_Blocks.length then (bif ((((d_Blocks.getD x.toNat ([] : List UInt8)).length : Nat) : Int) != (16 : Int)) then (some (4 : Int)) else ((loopF (F45_l2 n d_Blocks d_Sense) n2) (IntKind.wrap .i64 (x + (1 : Int))))) else none) else ((F109 n [(0 : Int), (32 : Int), (33 : Int), (36 : Int)] d_Sense).bind fun y_2 => (bif (!y_2) then (some (4 : Int)) else (some (0 : Int))))) = some r := h
        refine TS.seq ?_
        have hq : (True) ∧ (True) := ⟨trivial, trivial⟩
        refine TS.reg [] ?_ ?_
        · apply prop_of ?_ hq
          kernel_rfl
        refine XS.then ?_
        refine TS.seq ?_
        rcases bif_some h with ⟨c5, h⟩ | ⟨c6, h⟩
        · refine TS.cond (decide (x < ((d_Blocks.length : Nat) : Int))) ?_ (fun hcz => ?_) (fun hcz => by rw [c5] at hcz; cases hcz)
          · kernel_rfl
          refine TS.skip ?_
          refine XS.then ?_
          refine TS.seq ?_
          refine TS.block ?_
          refine TS.seq ?_
          obtain ⟨t7, h⟩ := test_some h
          have hq : (inR x d_Blocks.length) ∧ ((True) ∧ ((True) ∧ (True))) := ⟨inb_ok t7, ⟨trivial, ⟨trivial, trivial⟩⟩⟩
          refine TS.reg [] ?_ ?_
          · apply prop_of ?_ hq
            kernel_rfl
          refine XS.then ?_
          refine TS.seq ?_
          have hq : (True) ∧ ((True) ∧ ((True) ∧ (True))) := ⟨trivial, ⟨trivial, ⟨trivial, trivial⟩⟩⟩
          refine TS.reg [] ?_ ?_
          · apply prop_of ?_ hq
            kernel_rfl
          refine XS.then ?_
          rcases bif_some h with ⟨c8, h⟩ | ⟨c9, h⟩
          · refine TS.cond ((((d_Blocks.getD x.toNat ([] : List UInt8)).length : Nat) : Int) != (16 : Int)) ?_ (fun hcz => ?_) (fun hcz => by rw [c8] at hcz; cases hcz)
            · kernel_rfl
            refine TS.seq ?_
            have hq : (True) ∧ (True) := ⟨trivial, trivial⟩
            refine TS.reg [] ?_ ?_
            · apply prop_of ?_ hq
              kernel_rfl
            refine XS.then ?_
            refine TS.ret ?_
            refine XS.blockRet ?_
            refine XS.passR ?_
            refine XS.passR ?_
            refine XS.blockRet ?_
            refine XS.passR ?_
            obtain rfl : (4 : Int) = r := Option.some.inj h
            exact XS.fin [] ((True) ∧ (True)) (by kernel_rfl) ⟨trivial, trivial⟩
          · refine TS.cond ((((d_Blocks.getD x.toNat ([] : List UInt8)).length : Nat) : Int) != (16 : Int)) ?_ (fun hcz => by rw [c9] at hcz; cases hcz) (fun hcz => ?_)
            · kernel_rfl
            refine TS.skip ?_
            refine XS.blockEnd ?_
            refine XS.then ?_
            have hq : (True) ∧ ((True) ∧ (True)) := ⟨trivial, ⟨trivial, trivial⟩⟩
            refine TS.reg [] ?_ ?_
            · apply prop_of ?_ hq
              kernel_rfl
            refine XS.reAny [0] (mkMask 31 [1, 16, 17, 18]) (IntKind.wrap .i64 (x + (1 : Int))) h ?_
            kernel_rfl
        · refine TS.cond (decide (x < ((d_Blocks.length : Nat) : Int))) ?_ (fun hcz => by rw [c6] at hcz; cases hcz) (fun hcz => ?_)
          · kernel_rfl
          refine TS.exit ?_
          refine XS.passE ?_
          refine XS.passE ?_
          refine XS.out ?_
          refine XS.then ?_
          refine TS.seq ?_
          refine TS.seq ?_
          obtain ⟨y_2, hx10, h⟩ := bind_some' h
          have hq : ((0 < 4 ∧ True) ∧ ((1 < 4 ∧ True) ∧ ((2 < 4 ∧ True) ∧ ((3 < 4 ∧ True) ∧ (True))))) ∧ ((True) ∧ ((True) ∧ ((((True) ∧ ((True) ∧ (True))) ∧ PureC Try.prog 109 [(.sl (.int .i64) [(0 : Int), (32 : Int), (33 : Int), (36 : Int)]), (.int .i64 d_Sense)] (.bool y_2) []) ∧ ((True) ∧ (True))))) := ⟨⟨⟨by decide, trivial⟩, ⟨⟨by decide, trivial⟩, ⟨⟨by decide, trivial⟩, ⟨⟨by decide, trivial⟩, trivial⟩⟩⟩⟩, ⟨trivial, ⟨trivial, ⟨⟨⟨trivial, ⟨trivial, trivial⟩⟩, F109_ok n [(0 : Int), (32 : Int), (33 : Int), (36 : Int)] d_Sense y_2 hx10⟩, ⟨trivial, trivial⟩⟩⟩⟩⟩
          refine TS.reg [.none, .none, .none, (.call (.bool y_2) [])] ?_ ?_
          · apply prop_of ?_ hq
            kernel_rfl
          refine XS.then ?_
          rcases bif_some h with ⟨c11, h⟩ | ⟨c12, h⟩
          · refine TS.cond (!y_2) ?_ (fun hcz => ?_) (fun hcz => by rw [c11] at hcz; cases hcz)
            · kernel_rfl
            refine TS.seq ?_
            have hq : (True) ∧ (True) := ⟨trivial, trivial⟩
            refine TS.reg [] ?_ ?_
            · apply prop_of ?_ hq
              kernel_rfl
            refine XS.then ?_
            refine TS.ret ?_
            refine XS.passR ?_
            obtain rfl : (4 : Int) = r := Option.some.inj h
            exact XS.fin [] ((True) ∧ (True)) (by kernel_rfl) ⟨trivial, trivial⟩
          · refine TS.cond (!y_2) ?_ (fun hcz => by rw [c12] at hcz; cases hcz) (fun hcz => ?_)
            · kernel_rfl
            refine TS.skip ?_
            refine XS.then ?_
            refine TS.seq ?_
            have hq : (True) ∧ (True) := ⟨trivial, trivial⟩
            refine TS.reg [] ?_ ?_
            · apply prop_of ?_ hq
              kernel_rfl
            refine XS.then ?_
            refine TS.ret ?_
            obtain rfl : (0 : Int) = r := Option.some.inj h
            exact XS.fin [] ((True) ∧ (True)) (by kernel_rfl) ⟨trivial, trivial⟩

/-! plugtree/plugref.DiskRight -/
def F46_l2 (n : Nat) (d_Blocks : List (List UInt8)) (d_Sense : Int) (k46_2 : Int → Option Int) : Int → Option Int
  | x => (bif (decide (x < ((d_Blocks.length : Nat) : Int))) then (bif inb x d_Blocks.length then (bif ((((d_Blocks.getD x.toNat ([] : List UInt8)).length : Nat) : Int) != (16 : Int)) then (some (4 : Int)) else (k46_2 (IntKind.wrap .i64 (x + (1 : Int))))) else none) else ((F109 n [(0 : Int), (32 : Int), (33 : Int), (36 : Int)] d_Sense).bind fun y_3 => (bif (!y_3) then (some (4 : Int)) else (some (0 : Int)))))
def F46 (n : Nat) (d_Blocks : List (List UInt8)) (d_Sense : Int) : Option Int := ((F15 n ((d_Blocks.length : Nat) : Int) (1 : Int) (64 : Int)).bind fun y_2 => (bif (!y_2) then (some (1 : Int)) else (loopF (F46_l2 n d_Blocks d_Sense) n (0 : Int))))
theorem F46_ok (n : Nat) (d_Blocks : List (List UInt8)) (d_Sense : Int) (r : Int) (h : F46 n d_Blocks d_Sense = some r) : PureC Try.prog 46 [(.st (.cons (.sl .str d_Blocks) (.int .i64 d_Sense)))] (.int .i64 r) [] := by
  refine PureC.mkS Try.func46 rfl rfl ?_
  intro w0 fz0 hfz
  replace h : ((F15 n ((d_Blocks.length : Nat) : Int) (1 : Int) (64 : Int)).bind fun y_2 => (bif (!y_2) then (some (1 : Int)) else (loopF (F46_l2 n d_Blocks d_Sense) n (0 : Int)))) = some r := h
  refine TS.seq ?_
  have hq : (True) ∧ ((True) ∧ (True)) := ⟨trivial, ⟨trivial, trivial⟩⟩
  refine TS.reg [] ?_ ?_
  · apply prop_of ?_ hq
    kernel_rfl
  refine XS.then ?_
  refine TS.seq ?_
  refine TS.seq ?_
  obtain ⟨y_2, hx1, h⟩ := bind_some' h
  have hq : (True) ∧ ((True) ∧ ((True) ∧ ((PureC Try.prog 15 [(.int .i64 ((d_Blocks.length : Nat) : Int)), (.int .i64 (1 : Int)), (.int .i64 (64 : Int))] (.bool y_2) []) ∧ ((True) ∧ (True))))) := ⟨trivial, ⟨trivial, ⟨trivial, ⟨F15_ok n ((d_Blocks.length : Nat) : Int) (1 : Int) (64 : Int) y_2 hx1, ⟨trivial, trivial⟩⟩⟩⟩⟩
  refine TS.reg [.none, .none, .none, (.call (.bool y_2) [])] ?_ ?_
  · apply prop_of ?_ hq
    kernel_rfl
  refine XS.then ?_
  rcases bif_some h with ⟨c2, h⟩ | ⟨c3, h⟩
  · refine TS.cond (!y_2) ?_ (fun hcz => ?_) (fun hcz => by rw [c2] at hcz; cases hcz)
    · kernel_rfl
    refine TS.seq ?_
    have hq : (True) ∧ (True) := ⟨trivial, trivial⟩
    refine TS.reg [] ?_ ?_
    · apply prop_of ?_ hq
      kernel_rfl
    refine XS.then ?_
    refine TS.ret ?_
    refine XS.passR ?_
    obtain rfl : (1 : Int) = r := Option.some.inj h
    exact XS.fin [] ((True) ∧ (True)) (by kernel_rfl) ⟨trivial, trivial⟩
  · refine TS.cond (!y_2) ?_ (fun hcz => by rw [c3] at hcz; cases hcz) (fun hcz => ?_)
    · kernel_rfl
    refine TS.skip ?_
    refine XS.then ?_
    refine TS.seq ?_
    refine TS.seq ?_
    have hq : (True) ∧ ((True) ∧ ((True) ∧ ((True) ∧ (True)))) := ⟨trivial, ⟨trivial, ⟨trivial, ⟨trivial, trivial⟩⟩⟩⟩
    refine TS.reg [] ?_ ?_
    · apply prop_of ?_ hq
      kernel_rfl
    refine XS.then ?_
    refine TS.block ?_
    refine TS.reLoop [0] (mkMask 26 [1, 11, 12, 13]) (D := Int) (fun d => match d with | x => (mkTs 26 [(1, (.ptr 0 [])), (11, (.sl .str d_Blocks)), (12, (.int .i64 ((d_Blocks.length : Nat) : Int))), (13, (.int .i64 x))], [(.box 76 (.st (.cons (.sl .str d_Blocks) (.int .i64 d_Sense))))])) (fun n' d => loopF (F46_l2 n d_Blocks d_Sense) n' d = some r) n (0 : Int) h ?_ (fun d => loopF_zero _ d r) ?_
    · kernel_rfl
    · rintro n2 x h
      replace h : (bif (decide (x < ((d_Blocks.length : Nat) : Int))) then (bif inb x d_Blocks.length then (bif ((((d_Blocks.getD x.toNat ([] : List UInt8)).length : Nat) : Int) != (16 : Int)) then (some (4 : Int)) else ((loopF (F46_l2 n d_Blocks d_Sense) n2) (IntKind.wrap .i64 (x + (1 : Int))))) else none) else ((F109 n [(0 : Int), (32 : Int), (33 : Int), (36 : Int)] d_Sense).bind fun y_3 => (bif (!y_3) then (some (4 : Int)) else (some (0 : Int))))) = some r := h
      refine TS.seq ?_
      have hq : (True) ∧ (True) := ⟨trivial, trivial⟩
      refine TS.reg [] ?_ ?_
      · apply prop_of ?_ hq
        kernel_rfl
      refine XS.then ?_
      refine TS.seq ?_
      rcases bif_some h with ⟨c4, h⟩ | ⟨c5, h⟩
      · refine TS.cond (decide (x < ((d_Blocks.length : Nat) : Int))) ?_ (fun hcz => ?_) (fun hcz => by rw [c4] at hcz; cases hcz)
        · kernel_rfl
        refine TS.skip ?_
        refine XS.then ?_
        refine TS.seq ?_
        refine TS.block ?_
        refine TS.seq ?_
        obtain ⟨t6, h⟩ := test_some h
        have hq : (inR x d_Blocks.length) ∧ ((True) ∧ ((True) ∧ (True))) := ⟨inb_ok t6, ⟨trivial, ⟨trivial, trivial⟩⟩⟩
        refine TS.reg [] ?_ ?_
        · apply prop_of ?_ hq
          kernel_rfl
        refine XS.then ?_
        refine TS.seq ?_
        have hq : (True) ∧ ((True) ∧ ((True) ∧ (True))) := ⟨trivial, ⟨trivial, ⟨trivial, trivial⟩⟩⟩
        refine TS.reg [] ?_ ?_
        · apply prop_of ?_ hq
          kernel_rfl
        refine XS.then ?_
        rcases bif_some h with ⟨c7, h⟩ | ⟨c8, h⟩
        · refine TS.cond ((((d_Blocks.getD x.toNat ([] : List UInt8)).length : Nat) : Int) != (16 : Int)) ?_ (fun hcz => ?_) (fun hcz => by rw [c7] at hcz; cases hcz)
          · kernel_rfl
          refine TS.seq ?_
          have hq : (True) ∧ (True) := ⟨trivial, trivial⟩
          refine TS.reg [] ?_ ?_
          · apply prop_of ?_ hq
            kernel_rfl
          refine XS.then ?_
          refine TS.ret ?_
          refine XS.blockRet ?_
          refine XS.passR ?_
          refine XS.passR ?_
          refine XS.blockRet ?_
          refine XS.passR ?_
          obtain rfl : (4 : Int) = r := Option.some.inj h
          exact XS.fin [] ((True) ∧ (True)) (by kernel_rfl) ⟨trivial, trivial⟩
        · refine TS.cond ((((d_Blocks.getD x.toNat ([] : List UInt8)).length : Nat) : Int) != (16 : Int)) ?_ (fun hcz => by rw [c8] at hcz; cases hcz) (fun hcz => ?_)
          · kernel_rfl
          refine TS.skip ?_
          refine XS.blockEnd ?_
          refine XS.then ?_
          have hq : (True) ∧ ((True) ∧ (True)) := ⟨trivial, ⟨trivial, trivial⟩⟩
          refine TS.reg [] ?_ ?_
          · apply prop_of ?_ hq
            kernel_rfl
          refine XS.reAny [0] (mkMask 26 [1, 11, 12, 13]) (IntKind.wrap .i64 (x + (1 : Int))) h ?_
          kernel_rfl
      · refine TS.cond (decide (x < ((d_Blocks.length : Nat) : Int))) ?_ (fun hcz => by rw [c5] at hcz; cases hcz) (fun hcz => ?_)
        · kernel_rfl
        refine TS.exit ?_
        refine XS.passE ?_
        refine XS.passE ?_
        refine XS.out ?_
        refine XS.then ?_
        refine TS.seq ?_
        refine TS.seq ?_
        obtain ⟨y_3, hx9, h⟩ := bind_some' h
        have hq : ((0 < 4 ∧ True) ∧ ((1 < 4 ∧ True) ∧ ((2 < 4 ∧ True) ∧ ((3 < 4 ∧ True) ∧ (True))))) ∧ ((True) ∧ ((True) ∧ ((((True) ∧ ((True) ∧ (True))) ∧ PureC Try.prog 109 [(.sl (.int .i64) [(0 : Int), (32 : Int), (33 : Int), (36 : Int)]), (.int .i64 d_Sense)] (.bool y_3) []) ∧ ((True) ∧ (True))))) := ⟨⟨⟨by decide, trivial⟩, ⟨⟨by decide, trivial⟩, ⟨⟨by decide, trivial⟩, ⟨⟨by decide, trivial⟩, trivial⟩⟩⟩⟩, ⟨trivial, ⟨trivial, ⟨⟨⟨trivial, ⟨trivial, trivial⟩⟩, F109_ok n [(0 : Int), (32 : Int), (33 : Int), (36 : Int)] d_Sense y_3 hx9⟩, ⟨trivial, trivial⟩⟩⟩⟩⟩
        refine TS.reg [.none, .none, .none, (.call (.bool y_3) [])] ?_ ?_
        · apply prop_of ?_ hq
          kernel_rfl
        refine XS.then ?_
        rcases bif_some h with ⟨c10, h⟩ | ⟨c11, h⟩
        · refine TS.cond (!y_3) ?_ (fun hcz => ?_) (fun hcz => by rw [c10] at hcz; cases hcz)
          · kernel_rfl
          refine TS.seq ?_
          have hq : (True) ∧ (True) := ⟨trivial, trivial⟩
          refine TS.reg [] ?_ ?_
          · apply prop_of ?_ hq
            kernel_rfl
          refine XS.then ?_
          refine TS.ret ?_
          refine XS.passR ?_
          obtain rfl : (4 : Int) = r := Option.some.inj h
          exact XS.fin [] ((True) ∧ (True)) (by kernel_rfl) ⟨trivial, trivial⟩
        · refine TS.cond (!y_3) ?_ (fun hcz => by rw [c11] at hcz; cases hcz) (fun hcz => ?_)
          · kernel_rfl
          refine TS.skip ?_
          refine XS.then ?_
          refine TS.seq ?_
          have hq : (True) ∧ (True) := ⟨trivial, trivial⟩
          refine TS.reg [] ?_ ?_
          · apply prop_of ?_ hq
            kernel_rfl
          refine XS.then ?_
          refine TS.ret ?_
          obtain rfl : (0 : Int) = r := Option.some.inj h
          exact XS.fin [] ((True) ∧ (True)) (by kernel_rfl) ⟨trivial, trivial⟩

/-! plugtree/pluglaw.ScsiMakes -/
def F10_j5 (n : Nat) (d_Blocks : List (List UInt8)) (d_Sense : Int) (op : Int) (lba : Int) (count : Int) (y_2 : Int × Int × (List (List UInt8))) : (Int × (List (List UInt8))) → Option Bool
  | (say, m4) => ((F42 n op lba count).bind fun y_4 => ((F43 n op lba count).bind fun y_5 => ((F44 n y_2.2.2 y_2.1 m4 (0 : Int)).bind fun y_6 => (bif y_6 then (bif (y_2.2.1 == say) then (bif (y_4.1 == y_5.1) then (bif (y_4.2 == y_5.2) then ((F45 n d_Blocks d_Sense).bind fun y_7 => ((F46 n d_Blocks d_Sense).bind fun y_8 => (some (y_7 == y_8)))) else (some false)) else (some false)) else (some false)) else (some false)))))
def F10_l6 (n : Nat) (blocks : Int) (d_Blocks : List (List UInt8)) (d_Sense : Int) (op : Int) (lba : Int) (count : Int) (y_2 : Int × Int × (List (List UInt8))) (k10_6 : (Int × (List (List UInt8))) → Option Bool) : (Int × (List (List UInt8))) → Option Bool
  | (x, m4_2) => (bif (decide (x < blocks)) then ((F41 n ([0] : List UInt8) (16 : Int)).bind fun y_9 => (bif (decide (m4_2.length + [y_9].length ≤ 8796093022208)) then (k10_6 ((IntKind.wrap .i64 (x + (1 : Int))), (m4_2 ++ [y_9]))) else none)) else (F10_j5 n d_Blocks d_Sense op lba count y_2 ((0 : Int), m4_2)))
def F10 (n : Nat) (blocks : Int) (d_Blocks : List (List UInt8)) (d_Sense : Int) (op : Int) (lba : Int) (count : Int) : Option Bool := ((F40 n blocks).bind fun y_2 => ((F15 n blocks (1 : Int) (64 : Int)).bind fun y_3 => (bif y_3 then (loopF (F10_l6 n blocks d_Blocks d_Sense op lba count y_2) n ((0 : Int), ([] : List (List UInt8)))) else (F10_j5 n d_Blocks d_Sense op lba count y_2 ((1 : Int), ([] : List (List UInt8)))))))
theorem F10_ok (n : Nat) (blocks : Int) (d_Blocks : List (List UInt8)) (d_Sense : Int) (op : Int) (lba : Int) (count : Int) (r : Bool) (h : F10 n blocks d_Blocks d_Sense op lba count = some r) : PureC Try.prog 10 [(.int .i64 blocks), (.st (.cons (.sl .str d_Blocks) (.int .i64 d_Sense))), (.int .i64 op), (.int .i64 lba), (.int .i64 count)] (.bool r) [] := by
  refine PureC.mkS Try.func10 rfl rfl ?_
  intro w0 fz0 hfz
  replace h : ((F40 n blocks).bind fun y_2 => ((F15 n blocks (1 : Int) (64 : Int)).bind fun y_3 => (bif y_3 then (loopF (F10_l6 n blocks d_Blocks d_Sense op lba count y_2) n ((0 : Int), ([] : List (List UInt8)))) else (F10_j5 n d_Blocks d_Sense op lba count y_2 ((1 : Int), ([] : List (List UInt8))))))) = some r := h
  refine TS.seq ?_
  have hq : (True) ∧ ((True) ∧ (True)) := ⟨trivial, ⟨trivial, trivial⟩⟩
  refine TS.reg [] ?_ ?_
  · apply prop_of ?_ hq
    kernel_rfl
  refine XS.then ?_
  refine TS.seq ?_
  obtain ⟨y_2, hx1, h⟩ := bind_some' h
  have hq : (True) ∧ ((PureC Try.prog 40 [(.int .i64 blocks)] (.tup (.cons (.st (.cons (.row 0) (.int .i64 y_2.1))) (.cons (.int .i64 y_2.2.1) .nil))) [(.row 9 .str y_2.2.2)]) ∧ ((True) ∧ ((True) ∧ ((True) ∧ ((True) ∧ ((True) ∧ ((True) ∧ (True)))))))) := ⟨trivial, ⟨F40_ok n blocks y_2 hx1, ⟨trivial, ⟨trivial, ⟨trivial, ⟨trivial, ⟨trivial, ⟨trivial, trivial⟩⟩⟩⟩⟩⟩⟩⟩
  refine TS.reg [.none, (.call (.tup (.cons (.st (.cons (.row 0) (.int .i64 y_2.1))) (.cons (.int .i64 y_2.2.1) .nil))) [(.row 9 .str y_2.2.2)])] ?_ ?_
  · apply prop_of ?_ hq
    kernel_rfl
  refine XS.then ?_
  refine TS.seq ?_
  have hq : (True) ∧ ((True) ∧ ((True) ∧ ((True) ∧ (True)))) := ⟨trivial, ⟨trivial, ⟨trivial, ⟨trivial, trivial⟩⟩⟩⟩
  refine TS.reg [] ?_ ?_
  · apply prop_of ?_ hq
    kernel_rfl
  refine XS.then ?_
  refine TS.seq ?_
  refine TS.seq ?_
  obtain ⟨y_3, hx2, h⟩ := bind_some' h
  have hq : (True) ∧ ((PureC Try.prog 15 [(.int .i64 blocks), (.int .i64 (1 : Int)), (.int .i64 (64 : Int))] (.bool y_3) []) ∧ (True)) := ⟨trivial, ⟨F15_ok n blocks (1 : Int) (64 : Int) y_3 hx2, trivial⟩⟩
  refine TS.reg [.none, (.call (.bool y_3) [])] ?_ ?_
  · apply prop_of ?_ hq
    kernel_rfl
  refine XS.then ?_
  refine TS.cut (D := Int × (List (List UInt8))) (fun d => match d with | (say, m4) => (mkTs 76 [(2, (.int .i64 op)), (3, (.int .i64 lba)), (4, (.int .i64 count)), (6, (.ptr 0 [])), (11, (.ptr 1 [])), (12, (.int .i64 y_2.2.1)), (13, (.ptr 3 [])), (14, (.int .i64 say))], [(.box 76 (.st (.cons (.sl .str d_Blocks) (.int .i64 d_Sense)))), (.box 76 (.st (.cons (.row 2) (.int .i64 y_2.1)))), (.row 9 .str y_2.2.2), (.box 76 (.st (.cons (.row 4) (.int .i64 (0 : Int))))), (.row 9 .str m4)])) (fun d => F10_j5 n d_Blocks d_Sense op lba count y_2 d = some r) ?_ ?_
  · rintro ⟨say, m4⟩ h
    replace h : ((F42 n op lba count).bind fun y_4 => ((F43 n op lba count).bind fun y_5 => ((F44 n y_2.2.2 y_2.1 m4 (0 : Int)).bind fun y_6 => (bif y_6 then (bif (y_2.2.1 == say) then (bif (y_4.1 == y_5.1) then (bif (y_4.2 == y_5.2) then ((F45 n d_Blocks d_Sense).bind fun y_7 => ((F46 n d_Blocks d_Sense).bind fun y_8 => (some (y_7 == y_8)))) else (some false)) else (some false)) else (some false)) else (some false))))) = some r := h
    refine XS.then ?_
    refine TS.seq ?_
    obtain ⟨y_4, hx3, h⟩ := bind_some' h
    have hq : (True) ∧ ((True) ∧ ((True) ∧ ((PureC Try.prog 42 [(.int .i64 op), (.int .i64 lba), (.int .i64 count)] (.tup (.cons (.str y_4.1) (.cons (.int .i64 y_4.2) .nil))) []) ∧ ((True) ∧ ((True) ∧ ((True) ∧ ((True) ∧ ((True) ∧ (True))))))))) := ⟨trivial, ⟨trivial, ⟨trivial, ⟨F42_ok n op lba count y_4 hx3, ⟨trivial, ⟨trivial, ⟨trivial, ⟨trivial, ⟨trivial, trivial⟩⟩⟩⟩⟩⟩⟩⟩⟩
    refine TS.reg [.none, .none, .none, (.call (.tup (.cons (.str y_4.1) (.cons (.int .i64 y_4.2) .nil))) [])] ?_ ?_
    · apply prop_of ?_ hq
      kernel_rfl
    refine XS.then ?_
    refine TS.seq ?_
    obtain ⟨y_5, hx4, h⟩ := bind_some' h
    have hq : (True) ∧ ((True) ∧ ((True) ∧ ((PureC Try.prog 43 [(.int .i64 op), (.int .i64 lba), (.int .i64 count)] (.tup (.cons (.str y_5.1) (.cons (.int .i64 y_5.2) .nil))) []) ∧ ((True) ∧ ((True) ∧ ((True) ∧ ((True) ∧ ((True) ∧ (True))))))))) := ⟨trivial, ⟨trivial, ⟨trivial, ⟨F43_ok n op lba count y_5 hx4, ⟨trivial, ⟨trivial, ⟨trivial, ⟨trivial, ⟨trivial, trivial⟩⟩⟩⟩⟩⟩⟩⟩⟩
    refine TS.reg [.none, .none, .none, (.call (.tup (.cons (.str y_5.1) (.cons (.int .i64 y_5.2) .nil))) [])] ?_ ?_
    · apply prop_of ?_ hq
      kernel_rfl
    refine XS.then ?_
    refine TS.seq ?_
    obtain ⟨y_6, hx5, h⟩ := bind_some' h
    rcases bif_some h with ⟨c6, h⟩ | ⟨c7, h⟩
    · rcases bif_some h with ⟨c8, h⟩ | ⟨c9, h⟩
      · rcases bif_some h with ⟨c10, h⟩ | ⟨c11, h⟩
        · rcases bif_some h with ⟨c12, h⟩ | ⟨c13, h⟩
          · obtain ⟨y_7, hx14, h⟩ := bind_some' h
            obtain ⟨y_8, hx15, h⟩ := bind_some' h
            have hq : ((True) ∧ ((True) ∧ (((((True) ∧ (True)) ∧ (((True) ∧ (True)) ∧ (True))) ∧ PureC Try.prog 44 [(.st (.cons (.sl .str y_2.2.2) (.int .i64 y_2.1))), (.st (.cons (.sl .str m4) (.int .i64 (0 : Int))))] (.bool y_6) []) ∧ (((True) ∧ y_6 = true) ∧ ((True) ∧ ((True) ∧ ((True) ∧ ((True) ∧ (((True) ∧ (y_2.2.1 == say) = true) ∧ ((True) ∧ ((True) ∧ ((True) ∧ ((True) ∧ (((True) ∧ (y_4.1 == y_5.1) = true) ∧ ((True) ∧ ((True) ∧ ((True) ∧ ((True) ∧ (((True) ∧ (y_4.2 == y_5.2) = true) ∧ ((True) ∧ ((PureC Try.prog 45 [(.st (.cons (.sl .str d_Blocks) (.int .i64 d_Sense)))] (.int .i64 y_7) []) ∧ ((True) ∧ ((PureC Try.prog 46 [(.st (.cons (.sl .str d_Blocks) (.int .i64 d_Sense)))] (.int .i64 y_8) []) ∧ ((True) ∧ ((True) ∧ (True)))))))))))))))))))))))))) ∧ ((True) ∧ (True)) := ⟨⟨trivial, ⟨trivial, ⟨⟨⟨⟨trivial, trivial⟩, ⟨⟨trivial, trivial⟩, trivial⟩⟩, F44_ok n y_2.2.2 y_2.1 m4 (0 : Int) y_6 hx5⟩, ⟨⟨trivial, c6⟩, ⟨trivial, ⟨trivial, ⟨trivial, ⟨trivial, ⟨⟨trivial, c8⟩, ⟨trivial, ⟨trivial, ⟨trivial, ⟨trivial, ⟨⟨trivial, c10⟩, ⟨trivial, ⟨trivial, ⟨trivial, ⟨trivial, ⟨⟨trivial, c12⟩, ⟨trivial, ⟨F45_ok n d_Blocks d_Sense y_7 hx14, ⟨trivial, ⟨F46_ok n d_Blocks d_Sense y_8 hx15, ⟨trivial, ⟨trivial, trivial⟩⟩⟩⟩⟩⟩⟩⟩⟩⟩⟩⟩⟩⟩⟩⟩⟩⟩⟩⟩⟩⟩⟩⟩⟩, ⟨trivial, trivial⟩⟩
            refine TS.draw 25 [] [.none, .none, (.call (.bool y_6) []), .dec true, .none, .none, .none, .none, .dec true, .none, .none, .none, .none, .dec true, .none, .none, .none, .none, .dec true, .none, (.call (.int .i64 y_7) []), .none, (.call (.int .i64 y_8) [])] (by kernel_rfl) ?_ ?_
            · apply prop_of ?_ hq
              kernel_rfl
            refine XS.then ?_
            refine TS.ret ?_
            obtain rfl : (y_7 == y_8) = r := Option.some.inj h
            exact XS.fin [] ((True) ∧ (True)) (by kernel_rfl) ⟨trivial, trivial⟩
          · have hq : ((True) ∧ ((True) ∧ (((((True) ∧ (True)) ∧ (((True) ∧ (True)) ∧ (True))) ∧ PureC Try.prog 44 [(.st (.cons (.sl .str y_2.2.2) (.int .i64 y_2.1))), (.st (.cons (.sl .str m4) (.int .i64 (0 : Int))))] (.bool y_6) []) ∧ (((True) ∧ y_6 = true) ∧ ((True) ∧ ((True) ∧ ((True) ∧ ((True) ∧ (((True) ∧ (y_2.2.1 == say) = true) ∧ ((True) ∧ ((True) ∧ ((True) ∧ ((True) ∧ (((True) ∧ (y_4.1 == y_5.1) = true) ∧ ((True) ∧ ((True) ∧ ((True) ∧ ((True) ∧ (((True) ∧ (y_4.2 == y_5.2) = false) ∧ ((True) ∧ (True))))))))))))))))))))) ∧ ((True) ∧ (True)) := ⟨⟨trivial, ⟨trivial, ⟨⟨⟨⟨trivial, trivial⟩, ⟨⟨trivial, trivial⟩, trivial⟩⟩, F44_ok n y_2.2.2 y_2.1 m4 (0 : Int) y_6 hx5⟩, ⟨⟨trivial, c6⟩, ⟨trivial, ⟨trivial, ⟨trivial, ⟨trivial, ⟨⟨trivial, c8⟩, ⟨trivial, ⟨trivial, ⟨trivial, ⟨trivial, ⟨⟨trivial, c10⟩, ⟨trivial, ⟨trivial, ⟨trivial, ⟨trivial, ⟨⟨trivial, c13⟩, ⟨trivial, trivial⟩⟩⟩⟩⟩⟩⟩⟩⟩⟩⟩⟩⟩⟩⟩⟩⟩⟩⟩⟩, ⟨trivial, trivial⟩⟩
            refine TS.draw 25 [] [.none, .none, (.call (.bool y_6) []), .dec true, .none, .none, .none, .none, .dec true, .none, .none, .none, .none, .dec true, .none, .none, .none, .none, .dec false] (by kernel_rfl) ?_ ?_
            · apply prop_of ?_ hq
              kernel_rfl
            refine XS.then ?_
            refine TS.ret ?_
            obtain rfl : false = r := Option.some.inj h
            exact XS.fin [] ((True) ∧ (True)) (by kernel_rfl) ⟨trivial, trivial⟩
        · have hq : ((True) ∧ ((True) ∧ (((((True) ∧ (True)) ∧ (((True) ∧ (True)) ∧ (True))) ∧ PureC Try.prog 44 [(.st (.cons (.sl .str y_2.2.2) (.int .i64 y_2.1))), (.st (.cons (.sl .str m4) (.int .i64 (0 : Int))))] (.bool y_6) []) ∧ (((True) ∧ y_6 = true) ∧ ((True) ∧ ((True) ∧ ((True) ∧ ((True) ∧ (((True) ∧ (y_2.2.1 == say) = true) ∧ ((True) ∧ ((True) ∧ ((True) ∧ ((True) ∧ (((True) ∧ (y_4.1 == y_5.1) = false) ∧ ((True) ∧ ((True) ∧ ((True) ∧ (True)))))))))))))))))) ∧ ((True) ∧ (True)) := ⟨⟨trivial, ⟨trivial, ⟨⟨⟨⟨trivial, trivial⟩, ⟨⟨trivial, trivial⟩, trivial⟩⟩, F44_ok n y_2.2.2 y_2.1 m4 (0 : Int) y_6 hx5⟩, ⟨⟨trivial, c6⟩, ⟨trivial, ⟨trivial, ⟨trivial, ⟨trivial, ⟨⟨trivial, c8⟩, ⟨trivial, ⟨trivial, ⟨trivial, ⟨trivial, ⟨⟨trivial, c11⟩, ⟨trivial, ⟨trivial, ⟨trivial, trivial⟩⟩⟩⟩⟩⟩⟩⟩⟩⟩⟩⟩⟩⟩⟩⟩⟩, ⟨trivial, trivial⟩⟩
          refine TS.draw 25 [] [.none, .none, (.call (.bool y_6) []), .dec true, .none, .none, .none, .none, .dec true, .none, .none, .none, .none, .dec false] (by kernel_rfl) ?_ ?_
          · apply prop_of ?_ hq
            kernel_rfl
          refine XS.then ?_
          refine TS.ret ?_
          obtain rfl : false = r := Option.some.inj h
          exact XS.fin [] ((True) ∧ (True)) (by kernel_rfl) ⟨trivial, trivial⟩
      · have hq : ((True) ∧ ((True) ∧ (((((True) ∧ (True)) ∧ (((True) ∧ (True)) ∧ (True))) ∧ PureC Try.prog 44 [(.st (.cons (.sl .str y_2.2.2) (.int .i64 y_2.1))), (.st (.cons (.sl .str m4) (.int .i64 (0 : Int))))] (.bool y_6) []) ∧ (((True) ∧ y_6 = true) ∧ ((True) ∧ ((True) ∧ ((True) ∧ ((True) ∧ (((True) ∧ (y_2.2.1 == say) = false) ∧ ((True) ∧ ((True) ∧ ((True) ∧ ((True) ∧ ((True) ∧ (True))))))))))))))) ∧ ((True) ∧ (True)) := ⟨⟨trivial, ⟨trivial, ⟨⟨⟨⟨trivial, trivial⟩, ⟨⟨trivial, trivial⟩, trivial⟩⟩, F44_ok n y_2.2.2 y_2.1 m4 (0 : Int) y_6 hx5⟩, ⟨⟨trivial, c6⟩, ⟨trivial, ⟨trivial, ⟨trivial, ⟨trivial, ⟨⟨trivial, c9⟩, ⟨trivial, ⟨trivial, ⟨trivial, ⟨trivial, ⟨trivial, trivial⟩⟩⟩⟩⟩⟩⟩⟩⟩⟩⟩⟩⟩⟩, ⟨trivial, trivial⟩⟩
        refine TS.draw 25 [] [.none, .none, (.call (.bool y_6) []), .dec true, .none, .none, .none, .none, .dec false] (by kernel_rfl) ?_ ?_
        · apply prop_of ?_ hq
          kernel_rfl
        refine XS.then ?_
        refine TS.ret ?_
        obtain rfl : false = r := Option.some.inj h
        exact XS.fin [] ((True) ∧ (True)) (by kernel_rfl) ⟨trivial, trivial⟩
    · have hq : ((True) ∧ ((True) ∧ (((((True) ∧ (True)) ∧ (((True) ∧ (True)) ∧ (True))) ∧ PureC Try.prog 44 [(.st (.cons (.sl .str y_2.2.2) (.int .i64 y_2.1))), (.st (.cons (.sl .str m4) (.int .i64 (0 : Int))))] (.bool y_6) []) ∧ (((True) ∧ y_6 = false) ∧ ((True) ∧ ((True) ∧ ((True) ∧ ((True) ∧ ((True) ∧ ((True) ∧ ((True) ∧ (True)))))))))))) ∧ ((True) ∧ (True)) := ⟨⟨trivial, ⟨trivial, ⟨⟨⟨⟨trivial, trivial⟩, ⟨⟨trivial, trivial⟩, trivial⟩⟩, F44_ok n y_2.2.2 y_2.1 m4 (0 : Int) y_6 hx5⟩, ⟨⟨trivial, c7⟩, ⟨trivial, ⟨trivial, ⟨trivial, ⟨trivial, ⟨trivial, ⟨trivial, ⟨trivial, trivial⟩⟩⟩⟩⟩⟩⟩⟩⟩⟩⟩, ⟨trivial, trivial⟩⟩
      refine TS.draw 25 [] [.none, .none, (.call (.bool y_6) []), .dec false] (by kernel_rfl) ?_ ?_
      · apply prop_of ?_ hq
        kernel_rfl
      refine XS.then ?_
      refine TS.ret ?_
      obtain rfl : false = r := Option.some.inj h
      exact XS.fin [] ((True) ∧ (True)) (by kernel_rfl) ⟨trivial, trivial⟩
  · rcases bif_some h with ⟨c16, h⟩ | ⟨c17, h⟩
    · refine TS.cond y_3 ?_ (fun hcz => ?_) (fun hcz => by rw [c16] at hcz; cases hcz)
      · kernel_rfl
      refine TS.seq ?_
      have hq : (True) ∧ (True) := ⟨trivial, trivial⟩
      refine TS.reg [] ?_ ?_
      · apply prop_of ?_ hq
        kernel_rfl
      refine XS.then ?_
      refine TS.seq ?_
      have hq : (True) ∧ ((True) ∧ (True)) := ⟨trivial, ⟨trivial, trivial⟩⟩
      refine TS.reg [] ?_ ?_
      · apply prop_of ?_ hq
        kernel_rfl
      refine XS.then ?_
      refine TS.block ?_
      refine TS.wk (.row true 3 [false] 9 .str) ?_
      refine TS.reLoop [0, 2, 1, 3, 4] (mkMask 76 [2, 3, 4, 6, 11, 12, 13, 14, 27, 28]) (D := Int × (List (List UInt8))) (fun d => match d with | (x, m4_2) => (mkTs 76 [(2, (.int .i64 op)), (3, (.int .i64 lba)), (4, (.int .i64 count)), (6, (.ptr 0 [])), (11, (.ptr 1 [])), (12, (.int .i64 y_2.2.1)), (13, (.ptr 3 [])), (14, (.int .i64 (0 : Int))), (27, (.int .i64 blocks)), (28, (.int .i64 x))], [(.box 76 (.st (.cons (.sl .str d_Blocks) (.int .i64 d_Sense)))), (.box 76 (.st (.cons (.row 2) (.int .i64 y_2.1)))), (.row 9 .str y_2.2.2), (.box 76 (.st (.cons (.row 4) (.int .i64 (0 : Int))))), (.row 9 .str m4_2)])) (fun n' d => loopF (F10_l6 n blocks d_Blocks d_Sense op lba count y_2) n' d = some r) n ((0 : Int), ([] : List (List UInt8))) h ?_ (fun d => loopF_zero _ d r) ?_
      · kernel_rfl
      · rintro n6 ⟨x, m4_2⟩ h
        replace h : (bif (decide (x < blocks)) then ((F41 n ([0] : List UInt8) (16 : Int)).bind fun y_9 => (bif (decide (m4_2.length + [y_9].length ≤ 8796093022208)) then ((loopF (F10_l6 n blocks d_Blocks d_Sense op lba count y_2) n6) ((IntKind.wrap .i64 (x + (1 : Int))), (m4_2 ++ [y_9]))) else none)) else (F10_j5 n d_Blocks d_Sense op lba count y_2 ((0 : Int), m4_2))) = some r := h
        refine TS.seq ?_
        have hq : (True) ∧ (True) := ⟨trivial, trivial⟩
        refine TS.reg [] ?_ ?_
        · apply prop_of ?_ hq
          kernel_rfl
        refine XS.then ?_
        refine TS.seq ?_
        rcases bif_some h with ⟨c18, h⟩ | ⟨c19, h⟩
        · refine TS.cond (decide (x < blocks)) ?_ (fun hcz => ?_) (fun hcz => by rw [c18] at hcz; cases hcz)
          · kernel_rfl
          refine TS.skip ?_
          refine XS.then ?_
          refine TS.seq ?_
          refine TS.block ?_
          obtain ⟨y_9, hx20, h⟩ := bind_some' h
          obtain ⟨t21, h⟩ := test_some h
          have hq : ((True) ∧ ((True) ∧ ((PureC Try.prog 41 [(.str ([0] : List UInt8)), (.int .i64 (16 : Int))] (.str y_9) []) ∧ (((0 < 1 ∧ True) ∧ (True)) ∧ (True))))) ∧ ((m4_2.length + [y_9].length ≤ 8796093022208) ∧ ((True) ∧ ((True) ∧ (True)))) := ⟨⟨trivial, ⟨trivial, ⟨F41_ok n ([0] : List UInt8) (16 : Int) y_9 hx20, ⟨⟨⟨by decide, trivial⟩, trivial⟩, trivial⟩⟩⟩⟩, ⟨of_decide_eq_true t21, ⟨trivial, ⟨trivial, trivial⟩⟩⟩⟩
          refine TS.draw 4 [] [.none, .none, (.call (.str y_9) [])] (by kernel_rfl) ?_ ?_
          · apply prop_of ?_ hq
            kernel_rfl
          refine XS.blockEnd ?_
          refine XS.then ?_
          have hq : (True) ∧ ((True) ∧ (True)) := ⟨trivial, ⟨trivial, trivial⟩⟩
          refine TS.reg [] ?_ ?_
          · apply prop_of ?_ hq
            kernel_rfl
          refine XS.reAny [0, 1, 2, 3, 6] (mkMask 76 [2, 3, 4, 6, 11, 12, 13, 14, 27, 28]) ((IntKind.wrap .i64 (x + (1 : Int))), (m4_2 ++ [y_9])) h ?_
          kernel_rfl
        · refine TS.cond (decide (x < blocks)) ?_ (fun hcz => by rw [c19] at hcz; cases hcz) (fun hcz => ?_)
          · kernel_rfl
          refine TS.exit ?_
          refine XS.passE ?_
          refine XS.passE ?_
          refine XS.out ?_
          refine XS.reAny [0, 1, 2, 3, 4] (mkMask 76 [2, 3, 4, 6, 11, 12, 13, 14]) ((0 : Int), m4_2) h ?_
          kernel_rfl
    · refine TS.cond y_3 ?_ (fun hcz => by rw [c17] at hcz; cases hcz) (fun hcz => ?_)
      · kernel_rfl
      refine TS.skip ?_
      refine XS.wk (.row true 3 [false] 9 .str) ?_
      refine XS.reAny [0, 2, 1, 3, 4] (mkMask 76 [2, 3, 4, 6, 11, 12, 13, 14]) ((1 : Int), ([] : List (List UInt8))) h ?_
      kernel_rfl
end Go.Proofs.Ytmcjcioifgaihaa
