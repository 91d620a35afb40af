/- Functions of the program, as functions of values. -/
import Derived.Test.YtbodjbpgdkkohaaAm28
import Derived.Test.YtbodjbpgdkkohaaShelf
import Derived.Test.YtbodjbpgdkkohaaChecked
namespace Go.Proofs.Ytbodjbpgdkkohaa
open Go Go.RowKit
set_option linter.unusedVariables false
set_option maxRecDepth 100000

/-! slices.Index[[]int,int] -/
def F84_l2 (n : Nat) (s : List Int) (v : Int) (k84_2 : Int → Option Int) : Int → Option Int
  | x => (bif (decide (x < ((s.length : Nat) : Int))) then (bif inb x s.length then (bif (v == (s.getD x.toNat (0 : Int))) then (some x) else (k84_2 (IntKind.wrap .i64 (x + (1 : Int))))) else none) else (some (-1 : Int)))
def F84 (n : Nat) (s : List Int) (v : Int) : Option Int := (loopF (F84_l2 n s v) n (0 : Int))
theorem F84_ok (n : Nat) (s : List Int) (v : Int) (r : Int) (h : F84 n s v = some r) : PureC Try.prog 84 [(.sl (.int .i64) s), (.int .i64 v)] (.int .i64 r) [] := by
  refine PureC.mkS Try.func84 rfl rfl ?_
  intro w0 fz0 hfz
  replace h : (loopF (F84_l2 n s v) n (0 : Int)) = some r := h
  refine TS.seq ?_
  have hq : (True) ∧ (True) := ⟨trivial, trivial⟩
  refine TS.reg [] ?_ ?_
  · apply prop_of ?_ hq
    kernel_rfl
  refine XS.then ?_
  refine TS.seq ?_
  refine TS.seq ?_
  have hq : (True) ∧ ((True) ∧ ((True) ∧ (True))) := ⟨trivial, ⟨trivial, ⟨trivial, trivial⟩⟩⟩
  refine TS.reg [] ?_ ?_
  · apply prop_of ?_ hq
    kernel_rfl
  refine XS.then ?_
  refine TS.block ?_
  refine TS.reLoop [] (mkMask 19 [0, 1, 7, 8]) (D := Int) (fun d => match d with | x => (mkTs 19 [(0, (.sl (.int .i64) s)), (1, (.int .i64 v)), (7, (.int .i64 ((s.length : Nat) : Int))), (8, (.int .i64 x))], [])) (fun n' d => loopF (F84_l2 n s v) n' d = some r) n (0 : Int) h ?_ (fun d => loopF_zero _ d r) ?_
  · kernel_rfl
  · rintro n2 x h
    replace h : (bif (decide (x < ((s.length : Nat) : Int))) then (bif inb x s.length then (bif (v == (s.getD x.toNat (0 : Int))) then (some x) else ((loopF (F84_l2 n s v) n2) (IntKind.wrap .i64 (x + (1 : Int))))) else none) else (some (-1 : Int))) = some r := h
    refine TS.seq ?_
    have hq : (True) ∧ (True) := ⟨trivial, trivial⟩
    refine TS.reg [] ?_ ?_
    · apply prop_of ?_ hq
      kernel_rfl
    refine XS.then ?_
    refine TS.seq ?_
    rcases bif_some h with ⟨c1, h⟩ | ⟨c2, h⟩
    · refine TS.cond (decide (x < ((s.length : Nat) : Int))) ?_ (fun hcz => ?_) (fun hcz => by rw [c1] at hcz; cases hcz)
      · kernel_rfl
      refine TS.skip ?_
      refine XS.then ?_
      refine TS.seq ?_
      refine TS.block ?_
      refine TS.seq ?_
      have hq : (True) ∧ ((True) ∧ (True)) := ⟨trivial, ⟨trivial, trivial⟩⟩
      refine TS.reg [] ?_ ?_
      · apply prop_of ?_ hq
        kernel_rfl
      refine XS.then ?_
      refine TS.seq ?_
      obtain ⟨t3, h⟩ := test_some h
      have hq : (True) ∧ ((True) ∧ ((True) ∧ ((inR x s.length) ∧ ((True) ∧ ((True) ∧ (True)))))) := ⟨trivial, ⟨trivial, ⟨trivial, ⟨inb_ok t3, ⟨trivial, ⟨trivial, trivial⟩⟩⟩⟩⟩⟩
      refine TS.reg [] ?_ ?_
      · apply prop_of ?_ hq
        kernel_rfl
      refine XS.then ?_
      rcases bif_some h with ⟨c4, h⟩ | ⟨c5, h⟩
      · refine TS.cond (v == (s.getD x.toNat (0 : Int))) ?_ (fun hcz => ?_) (fun hcz => by rw [c4] at hcz; cases hcz)
        · kernel_rfl
        refine TS.seq ?_
        have hq : (True) ∧ ((True) ∧ (True)) := ⟨trivial, ⟨trivial, trivial⟩⟩
        refine TS.reg [] ?_ ?_
        · apply prop_of ?_ hq
          kernel_rfl
        refine XS.then ?_
        refine TS.ret ?_
        refine XS.blockRet ?_
        refine XS.passR ?_
        refine XS.passR ?_
        refine XS.blockRet ?_
        refine XS.passR ?_
        obtain rfl : x = r := Option.some.inj h
        exact XS.fin [] ((True) ∧ (True)) (by kernel_rfl) ⟨trivial, trivial⟩
      · refine TS.cond (v == (s.getD x.toNat (0 : Int))) ?_ (fun hcz => by rw [c5] at hcz; cases hcz) (fun hcz => ?_)
        · kernel_rfl
        refine TS.skip ?_
        refine XS.blockEnd ?_
        refine XS.then ?_
        have hq : (True) ∧ ((True) ∧ (True)) := ⟨trivial, ⟨trivial, trivial⟩⟩
        refine TS.reg [] ?_ ?_
        · apply prop_of ?_ hq
          kernel_rfl
        refine XS.reAny [] (mkMask 19 [0, 1, 7, 8]) (IntKind.wrap .i64 (x + (1 : Int))) h ?_
        kernel_rfl
    · refine TS.cond (decide (x < ((s.length : Nat) : Int))) ?_ (fun hcz => by rw [c2] at hcz; cases hcz) (fun hcz => ?_)
      · kernel_rfl
      refine TS.exit ?_
      refine XS.passE ?_
      refine XS.passE ?_
      refine XS.out ?_
      refine XS.then ?_
      refine TS.seq ?_
      have hq : (True) ∧ (True) := ⟨trivial, trivial⟩
      refine TS.reg [] ?_ ?_
      · apply prop_of ?_ hq
        kernel_rfl
      refine XS.then ?_
      refine TS.ret ?_
      obtain rfl : (-1 : Int) = r := Option.some.inj h
      exact XS.fin [] ((True) ∧ (True)) (by kernel_rfl) ⟨trivial, trivial⟩

/-! slices.Contains[[]int,int] -/
def F52 (n : Nat) (s : List Int) (v : Int) : Option Bool := ((F84 n s v).bind fun y_2 => (some (decide (y_2 ≥ (0 : Int)))))
theorem F52_ok (n : Nat) (s : List Int) (v : Int) (r : Bool) (h : F52 n s v = some r) : PureC Try.prog 52 [(.sl (.int .i64) s), (.int .i64 v)] (.bool r) [] := by
  refine PureC.mkS Try.func52 rfl rfl ?_
  intro w0 fz0 hfz
  replace h : ((F84 n s v).bind fun y_2 => (some (decide (y_2 ≥ (0 : Int))))) = some r := h
  refine TS.seq ?_
  have hq : (True) ∧ (True) := ⟨trivial, trivial⟩
  refine TS.reg [] ?_ ?_
  · apply prop_of ?_ hq
    kernel_rfl
  refine XS.then ?_
  refine TS.seq ?_
  obtain ⟨y_2, hx1, h⟩ := bind_some' h
  have hq : (True) ∧ ((True) ∧ ((PureC Try.prog 84 [(.sl (.int .i64) s), (.int .i64 v)] (.int .i64 y_2) []) ∧ ((True) ∧ ((True) ∧ (True))))) := ⟨trivial, ⟨trivial, ⟨F84_ok n s v y_2 hx1, ⟨trivial, ⟨trivial, trivial⟩⟩⟩⟩⟩
  refine TS.reg [.none, .none, (.call (.int .i64 y_2) [])] ?_ ?_
  · apply prop_of ?_ hq
    kernel_rfl
  refine XS.then ?_
  refine TS.ret ?_
  obtain rfl : (decide (y_2 ≥ (0 : Int))) = r := Option.some.inj h
  exact XS.fin [] ((True) ∧ (True)) (by kernel_rfl) ⟨trivial, trivial⟩

/-! plugtree/scsi.Check -/
def F22_l2 (n : Nat) (d_Blocks : List (List UInt8)) (d_Sense : Int) (k22_2 : Int → Option Int) : Int → Option Int
  | x => (bif (decide (x < ((d_Blocks.length : Nat) : Int))) then (bif inb x d_Blocks.length then (bif ((((d_Blocks.getD x.toNat ([] : List UInt8)).length : Nat) : Int) != (16 : Int)) then (some (4 : Int)) else (k22_2 (IntKind.wrap .i64 (x + (1 : Int))))) else none) else ((F52 n [(0 : Int), (32 : Int), (33 : Int), (36 : Int)] d_Sense).bind fun y_2 => (bif (!y_2) then (some (4 : Int)) else (some (0 : Int)))))
def F22 (n : Nat) (d_Blocks : List (List UInt8)) (d_Sense : Int) : Option Int := (bif (decide (((d_Blocks.length : Nat) : Int) < (1 : Int))) then (some (1 : Int)) else (bif (decide (((d_Blocks.length : Nat) : Int) > (64 : Int))) then (some (1 : Int)) else (loopF (F22_l2 n d_Blocks d_Sense) n (0 : Int))))
theorem F22_ok (n : Nat) (d_Blocks : List (List UInt8)) (d_Sense : Int) (r : Int) (h : F22 n d_Blocks d_Sense = some r) : PureC Try.prog 22 [(.st (.cons (.sl .str d_Blocks) (.int .i64 d_Sense)))] (.int .i64 r) [] := by
  refine PureC.mkS Try.func22 rfl rfl ?_
  intro w0 fz0 hfz
  replace h : (bif (decide (((d_Blocks.length : Nat) : Int) < (1 : Int))) then (some (1 : Int)) else (bif (decide (((d_Blocks.length : Nat) : Int) > (64 : Int))) then (some (1 : Int)) else (loopF (F22_l2 n d_Blocks d_Sense) n (0 : Int)))) = some r := h
  refine TS.seq ?_
  have hq : (True) ∧ ((True) ∧ (True)) := ⟨trivial, ⟨trivial, trivial⟩⟩
  refine TS.reg [] ?_ ?_
  · apply prop_of ?_ hq
    kernel_rfl
  refine XS.then ?_
  refine TS.seq ?_
  refine TS.seq ?_
  rcases bif_some h with ⟨c1, h⟩ | ⟨c2, h⟩
  · have hq : (True) ∧ ((True) ∧ ((True) ∧ ((True) ∧ (((True) ∧ (decide (((d_Blocks.length : Nat) : Int) < (1 : Int))) = true) ∧ ((True) ∧ (True)))))) := ⟨trivial, ⟨trivial, ⟨trivial, ⟨trivial, ⟨⟨trivial, c1⟩, ⟨trivial, trivial⟩⟩⟩⟩⟩⟩
    refine TS.reg [.none, .none, .none, .none, .dec true] ?_ ?_
    · apply prop_of ?_ hq
      kernel_rfl
    refine XS.then ?_
    refine TS.yes ?_ ?_
    · kernel_rfl
    refine TS.seq ?_
    have hq : (True) ∧ (True) := ⟨trivial, trivial⟩
    refine TS.reg [] ?_ ?_
    · apply prop_of ?_ hq
      kernel_rfl
    refine XS.then ?_
    refine TS.ret ?_
    refine XS.passR ?_
    obtain rfl : (1 : Int) = r := Option.some.inj h
    exact XS.fin [] ((True) ∧ (True)) (by kernel_rfl) ⟨trivial, trivial⟩
  · have hq : (True) ∧ ((True) ∧ ((True) ∧ ((True) ∧ (((True) ∧ (decide (((d_Blocks.length : Nat) : Int) < (1 : Int))) = false) ∧ ((True) ∧ ((True) ∧ ((True) ∧ ((True) ∧ ((True) ∧ (True)))))))))) := ⟨trivial, ⟨trivial, ⟨trivial, ⟨trivial, ⟨⟨trivial, c2⟩, ⟨trivial, ⟨trivial, ⟨trivial, ⟨trivial, ⟨trivial, trivial⟩⟩⟩⟩⟩⟩⟩⟩⟩⟩
    refine TS.reg [.none, .none, .none, .none, .dec false] ?_ ?_
    · apply prop_of ?_ hq
      kernel_rfl
    refine XS.then ?_
    rcases bif_some h with ⟨c3, h⟩ | ⟨c4, h⟩
    · refine TS.cond (decide (((d_Blocks.length : Nat) : Int) > (64 : Int))) ?_ (fun hcz => ?_) (fun hcz => by rw [c3] at hcz; cases hcz)
      · kernel_rfl
      refine TS.seq ?_
      have hq : (True) ∧ (True) := ⟨trivial, trivial⟩
      refine TS.reg [] ?_ ?_
      · apply prop_of ?_ hq
        kernel_rfl
      refine XS.then ?_
      refine TS.ret ?_
      refine XS.passR ?_
      obtain rfl : (1 : Int) = r := Option.some.inj h
      exact XS.fin [] ((True) ∧ (True)) (by kernel_rfl) ⟨trivial, trivial⟩
    · refine TS.cond (decide (((d_Blocks.length : Nat) : Int) > (64 : Int))) ?_ (fun hcz => by rw [c4] at hcz; cases hcz) (fun hcz => ?_)
      · kernel_rfl
      refine TS.skip ?_
      refine XS.then ?_
      refine TS.seq ?_
      refine TS.seq ?_
      have hq : (True) ∧ ((True) ∧ ((True) ∧ ((True) ∧ (True)))) := ⟨trivial, ⟨trivial, ⟨trivial, ⟨trivial, trivial⟩⟩⟩⟩
      refine TS.reg [] ?_ ?_
      · apply prop_of ?_ hq
        kernel_rfl
      refine XS.then ?_
      refine TS.block ?_
      refine TS.reLoop [0] (mkMask 31 [1, 16, 17, 18]) (D := Int) (fun d => match d with | x => (mkTs 31 [(1, (.ptr 0 [])), (16, (.sl .str d_Blocks)), (17, (.int .i64 ((d_Blocks.length : Nat) : Int))), (18, (.int .i64 x))], [(.box 24 (.st (.cons (.sl .str d_Blocks) (.int .i64 d_Sense))))])) (fun n' d => loopF (F22_l2 n d_Blocks d_Sense) n' d = some r) n (0 : Int) h ?_ (fun d => loopF_zero _ d r) ?_
      · kernel_rfl
      · rintro n2 x h
        replace h : (bif (decide (x < ((d_Blocks.length : Nat) : Int))) then (bif inb x d_Blocks.length then (bif ((((d_Blocks.getD x.toNat ([] : List UInt8)).length : Nat) : Int) != (16 : Int)) then (some (4 : Int)) else ((loopF (F22_l2 n d_Blocks d_Sense) n2) (IntKind.wrap .i64 (x + (1 : Int))))) else none) else ((F52 n [(0 : Int), (32 : Int), (33 : Int), (36 : Int)] d_Sense).bind fun y_2 => (bif (!y_2) then (some (4 : Int)) else (some (0 : Int))))) = some r := h
        refine TS.seq ?_
        have hq : (True) ∧ (True) := ⟨trivial, trivial⟩
        refine TS.reg [] ?_ ?_
        · apply prop_of ?_ hq
          kernel_rfl
        refine XS.then ?_
        refine TS.seq ?_
        rcases bif_some h with ⟨c5, h⟩ | ⟨c6, h⟩
        · refine TS.cond (decide (x < ((d_Blocks.length : Nat) : Int))) ?_ (fun hcz => ?_) (fun hcz => by rw [c5] at hcz; cases hcz)
          · kernel_rfl
          refine TS.skip ?_
          refine XS.then ?_
          refine TS.seq ?_
          refine TS.block ?_
          refine TS.seq ?_
          obtain ⟨t7, h⟩ := test_some h
          have hq : (inR x d_Blocks.length) ∧ ((True) ∧ ((True) ∧ (True))) := ⟨inb_ok t7, ⟨trivial, ⟨trivial, trivial⟩⟩⟩
          refine TS.reg [] ?_ ?_
          · apply prop_of ?_ hq
            kernel_rfl
          refine XS.then ?_
          refine TS.seq ?_
          have hq : (True) ∧ ((True) ∧ ((True) ∧ (True))) := ⟨trivial, ⟨trivial, ⟨trivial, trivial⟩⟩⟩
          refine TS.reg [] ?_ ?_
          · apply prop_of ?_ hq
            kernel_rfl
          refine XS.then ?_
          rcases bif_some h with ⟨c8, h⟩ | ⟨c9, h⟩
          · refine TS.cond ((((d_Blocks.getD x.toNat ([] : List UInt8)).length : Nat) : Int) != (16 : Int)) ?_ (fun hcz => ?_) (fun hcz => by rw [c8] at hcz; cases hcz)
            · kernel_rfl
            refine TS.seq ?_
            have hq : (True) ∧ (True) := ⟨trivial, trivial⟩
            refine TS.reg [] ?_ ?_
            · apply prop_of ?_ hq
              kernel_rfl
            refine XS.then ?_
            refine TS.ret ?_
            refine XS.blockRet ?_
            refine XS.passR ?_
            refine XS.passR ?_
            refine XS.blockRet ?_
            refine XS.passR ?_
            obtain rfl : (4 : Int) = r := Option.some.inj h
            exact XS.fin [] ((True) ∧ (True)) (by kernel_rfl) ⟨trivial, trivial⟩
          · refine TS.cond ((((d_Blocks.getD x.toNat ([] : List UInt8)).length : Nat) : Int) != (16 : Int)) ?_ (fun hcz => by rw [c9] at hcz; cases hcz) (fun hcz => ?_)
            · kernel_rfl
            refine TS.skip ?_
            refine XS.blockEnd ?_
            refine XS.then ?_
            have hq : (True) ∧ ((True) ∧ (True)) := ⟨trivial, ⟨trivial, trivial⟩⟩
            refine TS.reg [] ?_ ?_
            · apply prop_of ?_ hq
              kernel_rfl
            refine XS.reAny [0] (mkMask 31 [1, 16, 17, 18]) (IntKind.wrap .i64 (x + (1 : Int))) h ?_
            kernel_rfl
        · refine TS.cond (decide (x < ((d_Blocks.length : Nat) : Int))) ?_ (fun hcz => by rw [c6] at hcz; cases hcz) (fun hcz => ?_)
          · kernel_rfl
          refine TS.exit ?_
          refine XS.passE ?_
          refine XS.passE ?_
          refine XS.out ?_
          refine XS.then ?_
          refine TS.seq ?_
          refine TS.seq ?_
          obtain ⟨y_2, hx10, h⟩ := bind_some' h
          have hq : ((0 < 4 ∧ True) ∧ ((1 < 4 ∧ True) ∧ ((2 < 4 ∧ True) ∧ ((3 < 4 ∧ True) ∧ (True))))) ∧ ((True) ∧ ((True) ∧ ((((True) ∧ ((True) ∧ (True))) ∧ PureC Try.prog 52 [(.sl (.int .i64) [(0 : Int), (32 : Int), (33 : Int), (36 : Int)]), (.int .i64 d_Sense)] (.bool y_2) []) ∧ ((True) ∧ (True))))) := ⟨⟨⟨by decide, trivial⟩, ⟨⟨by decide, trivial⟩, ⟨⟨by decide, trivial⟩, ⟨⟨by decide, trivial⟩, trivial⟩⟩⟩⟩, ⟨trivial, ⟨trivial, ⟨⟨⟨trivial, ⟨trivial, trivial⟩⟩, F52_ok n [(0 : Int), (32 : Int), (33 : Int), (36 : Int)] d_Sense y_2 hx10⟩, ⟨trivial, trivial⟩⟩⟩⟩⟩
          refine TS.reg [.none, .none, .none, (.call (.bool y_2) [])] ?_ ?_
          · apply prop_of ?_ hq
            kernel_rfl
          refine XS.then ?_
          rcases bif_some h with ⟨c11, h⟩ | ⟨c12, h⟩
          · refine TS.cond (!y_2) ?_ (fun hcz => ?_) (fun hcz => by rw [c11] at hcz; cases hcz)
            · kernel_rfl
            refine TS.seq ?_
            have hq : (True) ∧ (True) := ⟨trivial, trivial⟩
            refine TS.reg [] ?_ ?_
            · apply prop_of ?_ hq
              kernel_rfl
            refine XS.then ?_
            refine TS.ret ?_
            refine XS.passR ?_
            obtain rfl : (4 : Int) = r := Option.some.inj h
            exact XS.fin [] ((True) ∧ (True)) (by kernel_rfl) ⟨trivial, trivial⟩
          · refine TS.cond (!y_2) ?_ (fun hcz => by rw [c12] at hcz; cases hcz) (fun hcz => ?_)
            · kernel_rfl
            refine TS.skip ?_
            refine XS.then ?_
            refine TS.seq ?_
            have hq : (True) ∧ (True) := ⟨trivial, trivial⟩
            refine TS.reg [] ?_ ?_
            · apply prop_of ?_ hq
              kernel_rfl
            refine XS.then ?_
            refine TS.ret ?_
            obtain rfl : (0 : Int) = r := Option.some.inj h
            exact XS.fin [] ((True) ∧ (True)) (by kernel_rfl) ⟨trivial, trivial⟩

/-! plugtree/bulk.longAt -/
def F62 (n : Nat) (s : List UInt8) (i : Int) : Option Int := (bif inb i s.length then (bif inb (IntKind.wrap .i64 (i + (1 : Int))) s.length then (bif inb (IntKind.wrap .i64 (i + (2 : Int))) s.length then (bif inb (IntKind.wrap .i64 (i + (3 : Int))) s.length then (some (bitsI .or .i64 (bitsI .or .i64 (bitsI .or .i64 (IntKind.wrap .i64 ((((s.getD i.toNat 0).toNat : Nat) : Int))) (shlI .i64 (IntKind.wrap .i64 ((((s.getD ((IntKind.wrap .i64 (i + (1 : Int))).toNat) 0).toNat : Nat) : Int))) (8 : Int))) (shlI .i64 (IntKind.wrap .i64 ((((s.getD ((IntKind.wrap .i64 (i + (2 : Int))).toNat) 0).toNat : Nat) : Int))) (16 : Int))) (shlI .i64 (IntKind.wrap .i64 ((((s.getD ((IntKind.wrap .i64 (i + (3 : Int))).toNat) 0).toNat : Nat) : Int))) (24 : Int)))) else none) else none) else none) else none)
theorem F62_ok (n : Nat) (s : List UInt8) (i : Int) (r : Int) (h : F62 n s i = some r) : PureC Try.prog 62 [(.str s), (.int .i64 i)] (.int .i64 r) [] := by
  refine PureC.mkS Try.func62 rfl rfl ?_
  intro w0 fz0 hfz
  replace h : (bif inb i s.length then (bif inb (IntKind.wrap .i64 (i + (1 : Int))) s.length then (bif inb (IntKind.wrap .i64 (i + (2 : Int))) s.length then (bif inb (IntKind.wrap .i64 (i + (3 : Int))) s.length then (some (bitsI .or .i64 (bitsI .or .i64 (bitsI .or .i64 (IntKind.wrap .i64 ((((s.getD i.toNat 0).toNat : Nat) : Int))) (shlI .i64 (IntKind.wrap .i64 ((((s.getD ((IntKind.wrap .i64 (i + (1 : Int))).toNat) 0).toNat : Nat) : Int))) (8 : Int))) (shlI .i64 (IntKind.wrap .i64 ((((s.getD ((IntKind.wrap .i64 (i + (2 : Int))).toNat) 0).toNat : Nat) : Int))) (16 : Int))) (shlI .i64 (IntKind.wrap .i64 ((((s.getD ((IntKind.wrap .i64 (i + (3 : Int))).toNat) 0).toNat : Nat) : Int))) (24 : Int)))) else none) else none) else none) else none) = some r := h
  refine TS.seq ?_
  have hq : (True) ∧ (True) := ⟨trivial, trivial⟩
  refine TS.reg [] ?_ ?_
  · apply prop_of ?_ hq
    kernel_rfl
  refine XS.then ?_
  refine TS.seq ?_
  obtain ⟨t1, h⟩ := test_some h
  obtain ⟨t2, h⟩ := test_some h
  obtain ⟨t3, h⟩ := test_some h
  obtain ⟨t4, h⟩ := test_some h
  have hq : ((True) ∧ ((True) ∧ ((inR i s.length) ∧ ((True) ∧ ((True) ∧ ((True) ∧ ((True) ∧ ((inR (IntKind.wrap .i64 (i + (1 : Int))) s.length) ∧ ((True) ∧ ((0 ≤ (8 : Int)) ∧ ((True) ∧ ((True) ∧ ((True) ∧ ((True) ∧ ((inR (IntKind.wrap .i64 (i + (2 : Int))) s.length) ∧ ((True) ∧ ((0 ≤ (16 : Int)) ∧ ((True) ∧ ((True) ∧ ((True) ∧ ((True) ∧ ((inR (IntKind.wrap .i64 (i + (3 : Int))) s.length) ∧ ((True) ∧ ((0 ≤ (24 : Int)) ∧ ((True) ∧ (True)))))))))))))))))))))))))) ∧ ((True) ∧ (True)) := ⟨⟨trivial, ⟨trivial, ⟨inb_ok t1, ⟨trivial, ⟨trivial, ⟨trivial, ⟨trivial, ⟨inb_ok t2, ⟨trivial, ⟨by decide, ⟨trivial, ⟨trivial, ⟨trivial, ⟨trivial, ⟨inb_ok t3, ⟨trivial, ⟨by decide, ⟨trivial, ⟨trivial, ⟨trivial, ⟨trivial, ⟨inb_ok t4, ⟨trivial, ⟨by decide, ⟨trivial, trivial⟩⟩⟩⟩⟩⟩⟩⟩⟩⟩⟩⟩⟩⟩⟩⟩⟩⟩⟩⟩⟩⟩⟩⟩⟩, ⟨trivial, trivial⟩⟩
  refine TS.draw 25 [] [] (by kernel_rfl) ?_ ?_
  · apply prop_of ?_ hq
    kernel_rfl
  refine XS.then ?_
  refine TS.ret ?_
  obtain rfl : (bitsI .or .i64 (bitsI .or .i64 (bitsI .or .i64 (IntKind.wrap .i64 ((((s.getD i.toNat 0).toNat : Nat) : Int))) (shlI .i64 (IntKind.wrap .i64 ((((s.getD ((IntKind.wrap .i64 (i + (1 : Int))).toNat) 0).toNat : Nat) : Int))) (8 : Int))) (shlI .i64 (IntKind.wrap .i64 ((((s.getD ((IntKind.wrap .i64 (i + (2 : Int))).toNat) 0).toNat : Nat) : Int))) (16 : Int))) (shlI .i64 (IntKind.wrap .i64 ((((s.getD ((IntKind.wrap .i64 (i + (3 : Int))).toNat) 0).toNat : Nat) : Int))) (24 : Int))) = r := Option.some.inj h
  exact XS.fin [] ((True) ∧ (True)) (by kernel_rfl) ⟨trivial, trivial⟩

/-! plugtree/bulk.is32 -/
def F64 (n : Nat) (vn : Int) : Option Bool := (bif (decide (vn ≥ (0 : Int))) then (some (decide (vn < (4294967296 : Int)))) else (some false))
theorem F64_ok (n : Nat) (vn : Int) (r : Bool) (h : F64 n vn = some r) : PureC Try.prog 64 [(.int .i64 vn)] (.bool r) [] := by
  refine PureC.mkS Try.func64 rfl rfl ?_
  intro w0 fz0 hfz
  replace h : (bif (decide (vn ≥ (0 : Int))) then (some (decide (vn < (4294967296 : Int)))) else (some false)) = some r := h
  refine TS.seq ?_
  have hq : (True) ∧ (True) := ⟨trivial, trivial⟩
  refine TS.reg [] ?_ ?_
  · apply prop_of ?_ hq
    kernel_rfl
  refine XS.then ?_
  refine TS.seq ?_
  rcases bif_some h with ⟨c1, h⟩ | ⟨c2, h⟩
  · have hq : (True) ∧ ((True) ∧ (((True) ∧ (decide (vn ≥ (0 : Int))) = true) ∧ ((True) ∧ ((True) ∧ ((True) ∧ ((True) ∧ (True))))))) := ⟨trivial, ⟨trivial, ⟨⟨trivial, c1⟩, ⟨trivial, ⟨trivial, ⟨trivial, ⟨trivial, trivial⟩⟩⟩⟩⟩⟩⟩
    refine TS.reg [.none, .none, .dec true] ?_ ?_
    · apply prop_of ?_ hq
      kernel_rfl
    refine XS.then ?_
    refine TS.ret ?_
    obtain rfl : (decide (vn < (4294967296 : Int))) = r := Option.some.inj h
    exact XS.fin [] ((True) ∧ (True)) (by kernel_rfl) ⟨trivial, trivial⟩
  · have hq : (True) ∧ ((True) ∧ (((True) ∧ (decide (vn ≥ (0 : Int))) = false) ∧ ((True) ∧ ((True) ∧ (True))))) := ⟨trivial, ⟨trivial, ⟨⟨trivial, c2⟩, ⟨trivial, ⟨trivial, trivial⟩⟩⟩⟩⟩
    refine TS.reg [.none, .none, .dec false] ?_ ?_
    · apply prop_of ?_ hq
      kernel_rfl
    refine XS.then ?_
    refine TS.ret ?_
    obtain rfl : false = r := Option.some.inj h
    exact XS.fin [] ((True) ∧ (True)) (by kernel_rfl) ⟨trivial, trivial⟩

/-! plugtree/bulk.long -/
def F65 (n : Nat) (vn : Int) : Option (List UInt8) := (some (strOf [(IntKind.wrap .u8 (vn)), (IntKind.wrap .u8 ((shrI .i64 vn (8 : Int)))), (IntKind.wrap .u8 ((shrI .i64 vn (16 : Int)))), (IntKind.wrap .u8 ((shrI .i64 vn (24 : Int))))]))
theorem F65_ok (n : Nat) (vn : Int) (r : List UInt8) (h : F65 n vn = some r) : PureC Try.prog 65 [(.int .i64 vn)] (.str r) [] := by
  refine PureC.mkS Try.func65 rfl rfl ?_
  intro w0 fz0 hfz
  replace h : (some (strOf [(IntKind.wrap .u8 (vn)), (IntKind.wrap .u8 ((shrI .i64 vn (8 : Int)))), (IntKind.wrap .u8 ((shrI .i64 vn (16 : Int)))), (IntKind.wrap .u8 ((shrI .i64 vn (24 : Int))))])) = some r := h
  refine TS.seq ?_
  have hq : (True) ∧ (True) := ⟨trivial, trivial⟩
  refine TS.reg [] ?_ ?_
  · apply prop_of ?_ hq
    kernel_rfl
  refine XS.then ?_
  refine TS.seq ?_
  have hq : (True) ∧ ((True) ∧ ((True) ∧ ((0 ≤ (8 : Int)) ∧ ((True) ∧ ((True) ∧ ((0 ≤ (16 : Int)) ∧ ((True) ∧ ((True) ∧ ((0 ≤ (24 : Int)) ∧ ((True) ∧ (((0 < 4 ∧ True) ∧ ((1 < 4 ∧ True) ∧ ((2 < 4 ∧ True) ∧ ((3 < 4 ∧ True) ∧ (True))))) ∧ ((True) ∧ ((True) ∧ (True)))))))))))))) := ⟨trivial, ⟨trivial, ⟨trivial, ⟨by decide, ⟨trivial, ⟨trivial, ⟨by decide, ⟨trivial, ⟨trivial, ⟨by decide, ⟨trivial, ⟨⟨⟨by decide, trivial⟩, ⟨⟨by decide, trivial⟩, ⟨⟨by decide, trivial⟩, ⟨⟨by decide, trivial⟩, trivial⟩⟩⟩⟩, ⟨trivial, ⟨trivial, trivial⟩⟩⟩⟩⟩⟩⟩⟩⟩⟩⟩⟩⟩⟩
  refine TS.reg [] ?_ ?_
  · apply prop_of ?_ hq
    kernel_rfl
  refine XS.then ?_
  refine TS.ret ?_
  obtain rfl : (strOf [(IntKind.wrap .u8 (vn)), (IntKind.wrap .u8 ((shrI .i64 vn (8 : Int)))), (IntKind.wrap .u8 ((shrI .i64 vn (16 : Int)))), (IntKind.wrap .u8 ((shrI .i64 vn (24 : Int))))]) = r := Option.some.inj h
  exact XS.fin [] ((True) ∧ (True)) (by kernel_rfl) ⟨trivial, trivial⟩

/-! strings.Repeat -/
def F39 (n : Nat) (s : List UInt8) (count : Int) : Option (List UInt8) := bif decide (0 ≤ count ∧ (s.length : Int) * count ≤ 140737488355328 ∧ count ≤ 9223372036854775807) then some (Lib.repeatL s (count).toNat) else none
theorem F39_ok (n : Nat) (s : List UInt8) (count : Int) (r : List UInt8) (h : F39 n s count = some r) : PureC Try.prog 39 [(.str s), (.int .i64 count)] (.str r) [] := by
  unfold F39 at h
  obtain ⟨c, h⟩ := test_some h
  obtain rfl := Option.some.inj h
  exact PureC.repeat s count (of_decide_eq_true c) Try.strings_Repeat

/-! plugtree/bulk.WriteWrap -/
def F42_j4 (n : Nat) (w_Tag : Int) (w_Length : Int) (w_Unit : Int) (w_Command : List UInt8) : Int → Option ((List UInt8) × Int)
  | flag => ((F65 n w_Tag).bind fun y_3 => (bif (decide (([85, 83, 66, 67] : List UInt8).length + y_3.length ≤ 9223372036854775807)) then ((F65 n w_Length).bind fun y_4 => (bif (decide ((([85, 83, 66, 67] : List UInt8) ++ y_3).length + y_4.length ≤ 9223372036854775807)) then (bif (decide (((([85, 83, 66, 67] : List UInt8) ++ y_3) ++ y_4).length + (strOf [flag, (IntKind.wrap .u8 (w_Unit)), (IntKind.wrap .u8 (((w_Command.length : Nat) : Int)))]).length ≤ 9223372036854775807)) then (bif (decide ((((([85, 83, 66, 67] : List UInt8) ++ y_3) ++ y_4) ++ (strOf [flag, (IntKind.wrap .u8 (w_Unit)), (IntKind.wrap .u8 (((w_Command.length : Nat) : Int)))])).length + w_Command.length ≤ 9223372036854775807)) then ((F39 n ([0] : List UInt8) (IntKind.wrap .i64 ((31 : Int) - ((((((([85, 83, 66, 67] : List UInt8) ++ y_3) ++ y_4) ++ (strOf [flag, (IntKind.wrap .u8 (w_Unit)), (IntKind.wrap .u8 (((w_Command.length : Nat) : Int)))])) ++ w_Command).length : Nat) : Int)))).bind fun y_5 => (bif (decide (((((([85, 83, 66, 67] : List UInt8) ++ y_3) ++ y_4) ++ (strOf [flag, (IntKind.wrap .u8 (w_Unit)), (IntKind.wrap .u8 (((w_Command.length : Nat) : Int)))])) ++ w_Command).length + y_5.length ≤ 9223372036854775807)) then (some ((((((([85, 83, 66, 67] : List UInt8) ++ y_3) ++ y_4) ++ (strOf [flag, (IntKind.wrap .u8 (w_Unit)), (IntKind.wrap .u8 (((w_Command.length : Nat) : Int)))])) ++ w_Command) ++ y_5), (0 : Int))) else none)) else none) else none) else none)) else none))
def F42_j3 (n : Nat) (w_Tag : Int) (w_Length : Int) (w_In : Bool) (w_Unit : Int) (w_Command : List UInt8) : Bool → Option ((List UInt8) × Int)
  | x => (bif x then (some (([] : List UInt8), (1 : Int))) else (bif w_In then (F42_j4 n w_Tag w_Length w_Unit w_Command (128 : Int)) else (F42_j4 n w_Tag w_Length w_Unit w_Command (0 : Int))))
def F42 (n : Nat) (w_Tag : Int) (w_Length : Int) (w_In : Bool) (w_Unit : Int) (w_Command : List UInt8) : Option ((List UInt8) × Int) := ((F64 n w_Tag).bind fun y_6 => (bif (!y_6) then (F42_j3 n w_Tag w_Length w_In w_Unit w_Command true) else ((F64 n w_Length).bind fun y_7 => (bif (!y_7) then (F42_j3 n w_Tag w_Length w_In w_Unit w_Command true) else (bif (decide (w_Unit < (0 : Int))) then (F42_j3 n w_Tag w_Length w_In w_Unit w_Command true) else (bif (decide (w_Unit > (15 : Int))) then (F42_j3 n w_Tag w_Length w_In w_Unit w_Command true) else (bif (decide (((w_Command.length : Nat) : Int) < (1 : Int))) then (F42_j3 n w_Tag w_Length w_In w_Unit w_Command true) else (F42_j3 n w_Tag w_Length w_In w_Unit w_Command (decide (((w_Command.length : Nat) : Int) > (16 : Int)))))))))))
theorem F42_ok (n : Nat) (w_Tag : Int) (w_Length : Int) (w_In : Bool) (w_Unit : Int) (w_Command : List UInt8) (r : (List UInt8) × Int) (h : F42 n w_Tag w_Length w_In w_Unit w_Command = some r) : PureC Try.prog 42 [(.st (.cons (.int .i64 w_Tag) (.cons (.int .i64 w_Length) (.cons (.bool w_In) (.cons (.int .i64 w_Unit) (.str w_Command))))))] (.tup (.cons (.str r.1) (.cons (.int .i64 r.2) .nil))) [] := by
  refine PureC.mkS Try.func42 rfl rfl ?_
  intro w0 fz0 hfz
  replace h : ((F64 n w_Tag).bind fun y_6 => (bif (!y_6) then (F42_j3 n w_Tag w_Length w_In w_Unit w_Command true) else ((F64 n w_Length).bind fun y_7 => (bif (!y_7) then (F42_j3 n w_Tag w_Length w_In w_Unit w_Command true) else (bif (decide (w_Unit < (0 : Int))) then (F42_j3 n w_Tag w_Length w_In w_Unit w_Command true) else (bif (decide (w_Unit > (15 : Int))) then (F42_j3 n w_Tag w_Length w_In w_Unit w_Command true) else (bif (decide (((w_Command.length : Nat) : Int) < (1 : Int))) then (F42_j3 n w_Tag w_Length w_In w_Unit w_Command true) else (F42_j3 n w_Tag w_Length w_In w_Unit w_Command (decide (((w_Command.length : Nat) : Int) > (16 : Int))))))))))) = some r := h
  refine TS.seq ?_
  have hq : (True) ∧ ((True) ∧ ((True) ∧ (True))) := ⟨trivial, ⟨trivial, ⟨trivial, trivial⟩⟩⟩
  refine TS.reg [] ?_ ?_
  · apply prop_of ?_ hq
    kernel_rfl
  refine XS.then ?_
  refine TS.seq ?_
  refine TS.seq ?_
  refine TS.cut (D := Bool) (fun d => match d with | x => (mkTs 68 [(1, (.ptr 0 [])), (37, (.bool x))], [(.box 35 (.st (.cons (.int .i64 w_Tag) (.cons (.int .i64 w_Length) (.cons (.bool w_In) (.cons (.int .i64 w_Unit) (.str w_Command)))))))])) (fun d => F42_j3 n w_Tag w_Length w_In w_Unit w_Command d = some r) ?_ ?_
  · rintro x h
    replace h : (bif x then (some (([] : List UInt8), (1 : Int))) else (bif w_In then (F42_j4 n w_Tag w_Length w_Unit w_Command (128 : Int)) else (F42_j4 n w_Tag w_Length w_Unit w_Command (0 : Int)))) = some r := h
    refine XS.then ?_
    rcases bif_some h with ⟨c1, h⟩ | ⟨c2, h⟩
    · refine TS.cond x ?_ (fun hcz => ?_) (fun hcz => by rw [c1] at hcz; cases hcz)
      · kernel_rfl
      refine TS.seq ?_
      have hq : (True) ∧ ((True) ∧ (True)) := ⟨trivial, ⟨trivial, trivial⟩⟩
      refine TS.reg [] ?_ ?_
      · apply prop_of ?_ hq
        kernel_rfl
      refine XS.then ?_
      refine TS.ret ?_
      refine XS.passR ?_
      obtain rfl : (([] : List UInt8), (1 : Int)) = r := Option.some.inj h
      exact XS.fin [] ((True) ∧ ((True) ∧ (True))) (by kernel_rfl) ⟨trivial, ⟨trivial, trivial⟩⟩
    · refine TS.cond x ?_ (fun hcz => by rw [c2] at hcz; cases hcz) (fun hcz => ?_)
      · kernel_rfl
      refine TS.skip ?_
      refine XS.then ?_
      refine TS.seq ?_
      have hq : (True) ∧ (True) := ⟨trivial, trivial⟩
      refine TS.reg [] ?_ ?_
      · apply prop_of ?_ hq
        kernel_rfl
      refine XS.then ?_
      refine TS.seq ?_
      refine TS.seq ?_
      have hq : (True) ∧ ((True) ∧ (True)) := ⟨trivial, ⟨trivial, trivial⟩⟩
      refine TS.reg [] ?_ ?_
      · apply prop_of ?_ hq
        kernel_rfl
      refine XS.then ?_
      refine TS.cut (D := Int) (fun d => match d with | flag => (mkTs 68 [(1, (.ptr 0 [])), (4, (.int .u8 flag))], [(.box 35 (.st (.cons (.int .i64 w_Tag) (.cons (.int .i64 w_Length) (.cons (.bool w_In) (.cons (.int .i64 w_Unit) (.str w_Command)))))))])) (fun d => F42_j4 n w_Tag w_Length w_Unit w_Command d = some r) ?_ ?_
      · rintro flag h
        replace h : ((F65 n w_Tag).bind fun y_3 => (bif (decide (([85, 83, 66, 67] : List UInt8).length + y_3.length ≤ 9223372036854775807)) then ((F65 n w_Length).bind fun y_4 => (bif (decide ((([85, 83, 66, 67] : List UInt8) ++ y_3).length + y_4.length ≤ 9223372036854775807)) then (bif (decide (((([85, 83, 66, 67] : List UInt8) ++ y_3) ++ y_4).length + (strOf [flag, (IntKind.wrap .u8 (w_Unit)), (IntKind.wrap .u8 (((w_Command.length : Nat) : Int)))]).length ≤ 9223372036854775807)) then (bif (decide ((((([85, 83, 66, 67] : List UInt8) ++ y_3) ++ y_4) ++ (strOf [flag, (IntKind.wrap .u8 (w_Unit)), (IntKind.wrap .u8 (((w_Command.length : Nat) : Int)))])).length + w_Command.length ≤ 9223372036854775807)) then ((F39 n ([0] : List UInt8) (IntKind.wrap .i64 ((31 : Int) - ((((((([85, 83, 66, 67] : List UInt8) ++ y_3) ++ y_4) ++ (strOf [flag, (IntKind.wrap .u8 (w_Unit)), (IntKind.wrap .u8 (((w_Command.length : Nat) : Int)))])) ++ w_Command).length : Nat) : Int)))).bind fun y_5 => (bif (decide (((((([85, 83, 66, 67] : List UInt8) ++ y_3) ++ y_4) ++ (strOf [flag, (IntKind.wrap .u8 (w_Unit)), (IntKind.wrap .u8 (((w_Command.length : Nat) : Int)))])) ++ w_Command).length + y_5.length ≤ 9223372036854775807)) then (some ((((((([85, 83, 66, 67] : List UInt8) ++ y_3) ++ y_4) ++ (strOf [flag, (IntKind.wrap .u8 (w_Unit)), (IntKind.wrap .u8 (((w_Command.length : Nat) : Int)))])) ++ w_Command) ++ y_5), (0 : Int))) else none)) else none) else none) else none)) else none)) = some r := h
        refine XS.then ?_
        refine TS.seq ?_
        obtain ⟨y_3, hx3, h⟩ := bind_some' h
        obtain ⟨t4, h⟩ := test_some h
        obtain ⟨y_4, hx5, h⟩ := bind_some' h
        obtain ⟨t6, h⟩ := test_some h
        obtain ⟨t7, h⟩ := test_some h
        obtain ⟨t8, h⟩ := test_some h
        have hq : ((True) ∧ ((True) ∧ ((PureC Try.prog 65 [(.int .i64 w_Tag)] (.str y_3) []) ∧ ((([85, 83, 66, 67] : List UInt8).length + y_3.length ≤ 9223372036854775807) ∧ ((True) ∧ ((True) ∧ ((PureC Try.prog 65 [(.int .i64 w_Length)] (.str y_4) []) ∧ (((([85, 83, 66, 67] : List UInt8) ++ y_3).length + y_4.length ≤ 9223372036854775807) ∧ ((True) ∧ ((True) ∧ ((True) ∧ ((True) ∧ ((True) ∧ ((True) ∧ ((True) ∧ ((True) ∧ (((0 < 3 ∧ True) ∧ ((1 < 3 ∧ True) ∧ ((2 < 3 ∧ True) ∧ (True)))) ∧ ((True) ∧ ((((([85, 83, 66, 67] : List UInt8) ++ y_3) ++ y_4).length + (strOf [flag, (IntKind.wrap .u8 (w_Unit)), (IntKind.wrap .u8 (((w_Command.length : Nat) : Int)))]).length ≤ 9223372036854775807) ∧ ((True) ∧ ((True) ∧ (((((([85, 83, 66, 67] : List UInt8) ++ y_3) ++ y_4) ++ (strOf [flag, (IntKind.wrap .u8 (w_Unit)), (IntKind.wrap .u8 (((w_Command.length : Nat) : Int)))])).length + w_Command.length ≤ 9223372036854775807) ∧ (True))))))))))))))))))))))) ∧ ((True) ∧ (True)) := ⟨⟨trivial, ⟨trivial, ⟨F65_ok n w_Tag y_3 hx3, ⟨of_decide_eq_true t4, ⟨trivial, ⟨trivial, ⟨F65_ok n w_Length y_4 hx5, ⟨of_decide_eq_true t6, ⟨trivial, ⟨trivial, ⟨trivial, ⟨trivial, ⟨trivial, ⟨trivial, ⟨trivial, ⟨trivial, ⟨⟨⟨by decide, trivial⟩, ⟨⟨by decide, trivial⟩, ⟨⟨by decide, trivial⟩, trivial⟩⟩⟩, ⟨trivial, ⟨of_decide_eq_true t7, ⟨trivial, ⟨trivial, ⟨of_decide_eq_true t8, trivial⟩⟩⟩⟩⟩⟩⟩⟩⟩⟩⟩⟩⟩⟩⟩⟩⟩⟩⟩⟩⟩⟩, ⟨trivial, trivial⟩⟩
        refine TS.draw 22 [] [.none, .none, (.call (.str y_3) []), .none, .none, .none, (.call (.str y_4) [])] (by kernel_rfl) ?_ ?_
        · apply prop_of ?_ hq
          kernel_rfl
        refine XS.then ?_
        refine TS.seq ?_
        obtain ⟨y_5, hx9, h⟩ := bind_some' h
        obtain ⟨t10, h⟩ := test_some h
        have hq : (True) ∧ ((True) ∧ ((True) ∧ ((True) ∧ ((PureC Try.prog 39 [(.str ([0] : List UInt8)), (.int .i64 (IntKind.wrap .i64 ((31 : Int) - ((((((([85, 83, 66, 67] : List UInt8) ++ y_3) ++ y_4) ++ (strOf [flag, (IntKind.wrap .u8 (w_Unit)), (IntKind.wrap .u8 (((w_Command.length : Nat) : Int)))])) ++ w_Command).length : Nat) : Int))))] (.str y_5) []) ∧ ((((((([85, 83, 66, 67] : List UInt8) ++ y_3) ++ y_4) ++ (strOf [flag, (IntKind.wrap .u8 (w_Unit)), (IntKind.wrap .u8 (((w_Command.length : Nat) : Int)))])) ++ w_Command).length + y_5.length ≤ 9223372036854775807) ∧ ((True) ∧ ((True) ∧ (True)))))))) := ⟨trivial, ⟨trivial, ⟨trivial, ⟨trivial, ⟨F39_ok n ([0] : List UInt8) (IntKind.wrap .i64 ((31 : Int) - ((((((([85, 83, 66, 67] : List UInt8) ++ y_3) ++ y_4) ++ (strOf [flag, (IntKind.wrap .u8 (w_Unit)), (IntKind.wrap .u8 (((w_Command.length : Nat) : Int)))])) ++ w_Command).length : Nat) : Int))) y_5 hx9, ⟨of_decide_eq_true t10, ⟨trivial, ⟨trivial, trivial⟩⟩⟩⟩⟩⟩⟩⟩
        refine TS.reg [.none, .none, .none, .none, (.call (.str y_5) [])] ?_ ?_
        · apply prop_of ?_ hq
          kernel_rfl
        refine XS.then ?_
        refine TS.ret ?_
        obtain rfl : ((((((([85, 83, 66, 67] : List UInt8) ++ y_3) ++ y_4) ++ (strOf [flag, (IntKind.wrap .u8 (w_Unit)), (IntKind.wrap .u8 (((w_Command.length : Nat) : Int)))])) ++ w_Command) ++ y_5), (0 : Int)) = r := Option.some.inj h
        exact XS.fin [] ((True) ∧ ((True) ∧ (True))) (by kernel_rfl) ⟨trivial, ⟨trivial, trivial⟩⟩
      · rcases bif_some h with ⟨c11, h⟩ | ⟨c12, h⟩
        · refine TS.cond w_In ?_ (fun hcz => ?_) (fun hcz => by rw [c11] at hcz; cases hcz)
          · kernel_rfl
          have hq : (True) ∧ (True) := ⟨trivial, trivial⟩
          refine TS.reg [] ?_ ?_
          · apply prop_of ?_ hq
            kernel_rfl
          refine XS.reAny [0] (mkMask 68 [1, 4]) (128 : Int) h ?_
          kernel_rfl
        · refine TS.cond w_In ?_ (fun hcz => by rw [c12] at hcz; cases hcz) (fun hcz => ?_)
          · kernel_rfl
          refine TS.skip ?_
          refine XS.reAny [0] (mkMask 68 [1, 4]) (0 : Int) h ?_
          kernel_rfl
  · obtain ⟨y_6, hx13, h⟩ := bind_some' h
    rcases bif_some h with ⟨c14, h⟩ | ⟨c15, h⟩
    · have hq : (True) ∧ ((True) ∧ ((PureC Try.prog 64 [(.int .i64 w_Tag)] (.bool y_6) []) ∧ ((True) ∧ (((True) ∧ (!y_6) = true) ∧ ((True) ∧ ((True) ∧ ((True) ∧ ((True) ∧ ((True) ∧ ((True) ∧ ((True) ∧ ((True) ∧ ((True) ∧ (True)))))))))))))) := ⟨trivial, ⟨trivial, ⟨F64_ok n w_Tag y_6 hx13, ⟨trivial, ⟨⟨trivial, c14⟩, ⟨trivial, ⟨trivial, ⟨trivial, ⟨trivial, ⟨trivial, ⟨trivial, ⟨trivial, ⟨trivial, ⟨trivial, trivial⟩⟩⟩⟩⟩⟩⟩⟩⟩⟩⟩⟩⟩⟩
      refine TS.reg [.none, .none, (.call (.bool y_6) []), .none, .dec true] ?_ ?_
      · apply prop_of ?_ hq
        kernel_rfl
      refine XS.reAny [0] (mkMask 68 [1, 37]) true h ?_
      kernel_rfl
    · obtain ⟨y_7, hx16, h⟩ := bind_some' h
      rcases bif_some h with ⟨c17, h⟩ | ⟨c18, h⟩
      · have hq : (True) ∧ ((True) ∧ ((PureC Try.prog 64 [(.int .i64 w_Tag)] (.bool y_6) []) ∧ ((True) ∧ (((True) ∧ (!y_6) = false) ∧ ((True) ∧ ((True) ∧ ((PureC Try.prog 64 [(.int .i64 w_Length)] (.bool y_7) []) ∧ ((True) ∧ ((True) ∧ (((True) ∧ (!y_7) = true) ∧ ((True) ∧ ((True) ∧ ((True) ∧ ((True) ∧ ((True) ∧ ((True) ∧ ((True) ∧ (True)))))))))))))))))) := ⟨trivial, ⟨trivial, ⟨F64_ok n w_Tag y_6 hx13, ⟨trivial, ⟨⟨trivial, c15⟩, ⟨trivial, ⟨trivial, ⟨F64_ok n w_Length y_7 hx16, ⟨trivial, ⟨trivial, ⟨⟨trivial, c17⟩, ⟨trivial, ⟨trivial, ⟨trivial, ⟨trivial, ⟨trivial, ⟨trivial, ⟨trivial, trivial⟩⟩⟩⟩⟩⟩⟩⟩⟩⟩⟩⟩⟩⟩⟩⟩⟩⟩
        refine TS.reg [.none, .none, (.call (.bool y_6) []), .none, .dec false, .none, .none, (.call (.bool y_7) []), .none, .none, .dec true] ?_ ?_
        · apply prop_of ?_ hq
          kernel_rfl
        refine XS.reAny [0] (mkMask 68 [1, 37]) true h ?_
        kernel_rfl
      · rcases bif_some h with ⟨c19, h⟩ | ⟨c20, h⟩
        · have hq : (True) ∧ ((True) ∧ ((PureC Try.prog 64 [(.int .i64 w_Tag)] (.bool y_6) []) ∧ ((True) ∧ (((True) ∧ (!y_6) = false) ∧ ((True) ∧ ((True) ∧ ((PureC Try.prog 64 [(.int .i64 w_Length)] (.bool y_7) []) ∧ ((True) ∧ ((True) ∧ (((True) ∧ (!y_7) = false) ∧ ((True) ∧ ((True) ∧ ((True) ∧ ((True) ∧ (((True) ∧ (decide (w_Unit < (0 : Int))) = true) ∧ ((True) ∧ ((True) ∧ ((True) ∧ ((True) ∧ ((True) ∧ (True))))))))))))))))))))) := ⟨trivial, ⟨trivial, ⟨F64_ok n w_Tag y_6 hx13, ⟨trivial, ⟨⟨trivial, c15⟩, ⟨trivial, ⟨trivial, ⟨F64_ok n w_Length y_7 hx16, ⟨trivial, ⟨trivial, ⟨⟨trivial, c18⟩, ⟨trivial, ⟨trivial, ⟨trivial, ⟨trivial, ⟨⟨trivial, c19⟩, ⟨trivial, ⟨trivial, ⟨trivial, ⟨trivial, ⟨trivial, trivial⟩⟩⟩⟩⟩⟩⟩⟩⟩⟩⟩⟩⟩⟩⟩⟩⟩⟩⟩⟩⟩
          refine TS.reg [.none, .none, (.call (.bool y_6) []), .none, .dec false, .none, .none, (.call (.bool y_7) []), .none, .none, .dec false, .none, .none, .none, .none, .dec true] ?_ ?_
          · apply prop_of ?_ hq
            kernel_rfl
          refine XS.reAny [0] (mkMask 68 [1, 37]) true h ?_
          kernel_rfl
        · rcases bif_some h with ⟨c21, h⟩ | ⟨c22, h⟩
          · have hq : (True) ∧ ((True) ∧ ((PureC Try.prog 64 [(.int .i64 w_Tag)] (.bool y_6) []) ∧ ((True) ∧ (((True) ∧ (!y_6) = false) ∧ ((True) ∧ ((True) ∧ ((PureC Try.prog 64 [(.int .i64 w_Length)] (.bool y_7) []) ∧ ((True) ∧ ((True) ∧ (((True) ∧ (!y_7) = false) ∧ ((True) ∧ ((True) ∧ ((True) ∧ ((True) ∧ (((True) ∧ (decide (w_Unit < (0 : Int))) = false) ∧ ((True) ∧ ((True) ∧ ((True) ∧ ((True) ∧ (((True) ∧ (decide (w_Unit > (15 : Int))) = true) ∧ ((True) ∧ ((True) ∧ ((True) ∧ (True)))))))))))))))))))))))) := ⟨trivial, ⟨trivial, ⟨F64_ok n w_Tag y_6 hx13, ⟨trivial, ⟨⟨trivial, c15⟩, ⟨trivial, ⟨trivial, ⟨F64_ok n w_Length y_7 hx16, ⟨trivial, ⟨trivial, ⟨⟨trivial, c18⟩, ⟨trivial, ⟨trivial, ⟨trivial, ⟨trivial, ⟨⟨trivial, c20⟩, ⟨trivial, ⟨trivial, ⟨trivial, ⟨trivial, ⟨⟨trivial, c21⟩, ⟨trivial, ⟨trivial, ⟨trivial, trivial⟩⟩⟩⟩⟩⟩⟩⟩⟩⟩⟩⟩⟩⟩⟩⟩⟩⟩⟩⟩⟩⟩⟩⟩
            refine TS.reg [.none, .none, (.call (.bool y_6) []), .none, .dec false, .none, .none, (.call (.bool y_7) []), .none, .none, .dec false, .none, .none, .none, .none, .dec false, .none, .none, .none, .none, .dec true] ?_ ?_
            · apply prop_of ?_ hq
              kernel_rfl
            refine XS.reAny [0] (mkMask 68 [1, 37]) true h ?_
            kernel_rfl
          · rcases bif_some h with ⟨c23, h⟩ | ⟨c24, h⟩
            · have hq : (True) ∧ ((True) ∧ ((PureC Try.prog 64 [(.int .i64 w_Tag)] (.bool y_6) []) ∧ ((True) ∧ (((True) ∧ (!y_6) = false) ∧ ((True) ∧ ((True) ∧ ((PureC Try.prog 64 [(.int .i64 w_Length)] (.bool y_7) []) ∧ ((True) ∧ ((True) ∧ (((True) ∧ (!y_7) = false) ∧ ((True) ∧ ((True) ∧ ((True) ∧ ((True) ∧ (((True) ∧ (decide (w_Unit < (0 : Int))) = false) ∧ ((True) ∧ ((True) ∧ ((True) ∧ ((True) ∧ (((True) ∧ (decide (w_Unit > (15 : Int))) = false) ∧ ((True) ∧ ((True) ∧ ((True) ∧ ((True) ∧ ((True) ∧ (((True) ∧ (decide (((w_Command.length : Nat) : Int) < (1 : Int))) = true) ∧ ((True) ∧ (True)))))))))))))))))))))))))))) := ⟨trivial, ⟨trivial, ⟨F64_ok n w_Tag y_6 hx13, ⟨trivial, ⟨⟨trivial, c15⟩, ⟨trivial, ⟨trivial, ⟨F64_ok n w_Length y_7 hx16, ⟨trivial, ⟨trivial, ⟨⟨trivial, c18⟩, ⟨trivial, ⟨trivial, ⟨trivial, ⟨trivial, ⟨⟨trivial, c20⟩, ⟨trivial, ⟨trivial, ⟨trivial, ⟨trivial, ⟨⟨trivial, c22⟩, ⟨trivial, ⟨trivial, ⟨trivial, ⟨trivial, ⟨trivial, ⟨⟨trivial, c23⟩, ⟨trivial, trivial⟩⟩⟩⟩⟩⟩⟩⟩⟩⟩⟩⟩⟩⟩⟩⟩⟩⟩⟩⟩⟩⟩⟩⟩⟩⟩⟩⟩
              refine TS.reg [.none, .none, (.call (.bool y_6) []), .none, .dec false, .none, .none, (.call (.bool y_7) []), .none, .none, .dec false, .none, .none, .none, .none, .dec false, .none, .none, .none, .none, .dec false, .none, .none, .none, .none, .none, .dec true] ?_ ?_
              · apply prop_of ?_ hq
                kernel_rfl
              refine XS.reAny [0] (mkMask 68 [1, 37]) true h ?_
              kernel_rfl
            · have hq : (True) ∧ ((True) ∧ ((PureC Try.prog 64 [(.int .i64 w_Tag)] (.bool y_6) []) ∧ ((True) ∧ (((True) ∧ (!y_6) = false) ∧ ((True) ∧ ((True) ∧ ((PureC Try.prog 64 [(.int .i64 w_Length)] (.bool y_7) []) ∧ ((True) ∧ ((True) ∧ (((True) ∧ (!y_7) = false) ∧ ((True) ∧ ((True) ∧ ((True) ∧ ((True) ∧ (((True) ∧ (decide (w_Unit < (0 : Int))) = false) ∧ ((True) ∧ ((True) ∧ ((True) ∧ ((True) ∧ (((True) ∧ (decide (w_Unit > (15 : Int))) = false) ∧ ((True) ∧ ((True) ∧ ((True) ∧ ((True) ∧ ((True) ∧ (((True) ∧ (decide (((w_Command.length : Nat) : Int) < (1 : Int))) = false) ∧ ((True) ∧ ((True) ∧ ((True) ∧ ((True) ∧ ((True) ∧ (True)))))))))))))))))))))))))))))))) := ⟨trivial, ⟨trivial, ⟨F64_ok n w_Tag y_6 hx13, ⟨trivial, ⟨⟨trivial, c15⟩, ⟨trivial, ⟨trivial, ⟨F64_ok n w_Length y_7 hx16, ⟨trivial, ⟨trivial, ⟨⟨trivial, c18⟩, ⟨trivial, ⟨trivial, ⟨trivial, ⟨trivial, ⟨⟨trivial, c20⟩, ⟨trivial, ⟨trivial, ⟨trivial, ⟨trivial, ⟨⟨trivial, c22⟩, ⟨trivial, ⟨trivial, ⟨trivial, ⟨trivial, ⟨trivial, ⟨⟨trivial, c24⟩, ⟨trivial, ⟨trivial, ⟨trivial, ⟨trivial, ⟨trivial, trivial⟩⟩⟩⟩⟩⟩⟩⟩⟩⟩⟩⟩⟩⟩⟩⟩⟩⟩⟩⟩⟩⟩⟩⟩⟩⟩⟩⟩⟩⟩⟩⟩
              refine TS.reg [.none, .none, (.call (.bool y_6) []), .none, .dec false, .none, .none, (.call (.bool y_7) []), .none, .none, .dec false, .none, .none, .none, .none, .dec false, .none, .none, .none, .none, .dec false, .none, .none, .none, .none, .none, .dec false] ?_ ?_
              · apply prop_of ?_ hq
                kernel_rfl
              refine XS.reAny [0] (mkMask 68 [1, 37]) (decide (((w_Command.length : Nat) : Int) > (16 : Int))) h ?_
              kernel_rfl

/-! plugtree/bulk.ReadWrap -/
def F29 (n : Nat) (s : List UInt8) : Option (Int × Int × Bool × Int × (List UInt8) × Int) := (bif (decide (((s.length : Nat) : Int) < (31 : Int))) then (some ((0 : Int), (0 : Int), false, (0 : Int), ([] : List UInt8), (3 : Int))) else ((F62 n s (4 : Int)).bind fun y_7 => ((F62 n s (8 : Int)).bind fun y_8 => (bif inb (12 : Int) s.length then (bif inb (13 : Int) s.length then (bif inb (14 : Int) s.length then (bif subB s.length (some (15 : Int)) (some (IntKind.wrap .i64 ((15 : Int) + (if (16 : Int) < (IntKind.wrap .i64 ((((s.getD 14 0).toNat : Nat) : Int))) then (16 : Int) else (IntKind.wrap .i64 ((((s.getD 14 0).toNat : Nat) : Int))))))) then ((F42 n y_7 y_8 ((((s.getD 12 0).toNat : Nat) : Int) == (128 : Int)) (IntKind.wrap .i64 ((((s.getD 13 0).toNat : Nat) : Int))) ((s.take (IntKind.wrap .i64 ((15 : Int) + (if (16 : Int) < (IntKind.wrap .i64 ((((s.getD 14 0).toNat : Nat) : Int))) then (16 : Int) else (IntKind.wrap .i64 ((((s.getD 14 0).toNat : Nat) : Int)))))).toNat).drop 15)).bind fun y_9 => (bif (y_9.2 != (0 : Int)) then (some ((0 : Int), (0 : Int), false, (0 : Int), ([] : List UInt8), (4 : Int))) else (bif (!(y_9.1 == s)) then (some ((0 : Int), (0 : Int), false, (0 : Int), ([] : List UInt8), (4 : Int))) else (some (y_7, y_8, ((((s.getD 12 0).toNat : Nat) : Int) == (128 : Int)), (IntKind.wrap .i64 ((((s.getD 13 0).toNat : Nat) : Int))), ((s.take (IntKind.wrap .i64 ((15 : Int) + (if (16 : Int) < (IntKind.wrap .i64 ((((s.getD 14 0).toNat : Nat) : Int))) then (16 : Int) else (IntKind.wrap .i64 ((((s.getD 14 0).toNat : Nat) : Int)))))).toNat).drop 15), (0 : Int)))))) else none) else none) else none) else none))))
theorem F29_ok (n : Nat) (s : List UInt8) (r : Int × Int × Bool × Int × (List UInt8) × Int) (h : F29 n s = some r) : PureC Try.prog 29 [(.str s)] (.tup (.cons (.st (.cons (.int .i64 r.1) (.cons (.int .i64 r.2.1) (.cons (.bool r.2.2.1) (.cons (.int .i64 r.2.2.2.1) (.str r.2.2.2.2.1)))))) (.cons (.int .i64 r.2.2.2.2.2) .nil))) [] := by
  refine PureC.mkS Try.func29 rfl rfl ?_
  intro w0 fz0 hfz
  replace h : (bif (decide (((s.length : Nat) : Int) < (31 : Int))) then (some ((0 : Int), (0 : Int), false, (0 : Int), ([] : List UInt8), (3 : Int))) else ((F62 n s (4 : Int)).bind fun y_7 => ((F62 n s (8 : Int)).bind fun y_8 => (bif inb (12 : Int) s.length then (bif inb (13 : Int) s.length then (bif inb (14 : Int) s.length then (bif subB s.length (some (15 : Int)) (some (IntKind.wrap .i64 ((15 : Int) + (if (16 : Int) < (IntKind.wrap .i64 ((((s.getD 14 0).toNat : Nat) : Int))) then (16 : Int) else (IntKind.wrap .i64 ((((s.getD 14 0).toNat : Nat) : Int))))))) then ((F42 n y_7 y_8 ((((s.getD 12 0).toNat : Nat) : Int) == (128 : Int)) (IntKind.wrap .i64 ((((s.getD 13 0).toNat : Nat) : Int))) ((s.take (IntKind.wrap .i64 ((15 : Int) + (if (16 : Int) < (IntKind.wrap .i64 ((((s.getD 14 0).toNat : Nat) : Int))) then (16 : Int) else (IntKind.wrap .i64 ((((s.getD 14 0).toNat : Nat) : Int)))))).toNat).drop 15)).bind fun y_9 => (bif (y_9.2 != (0 : Int)) then (some ((0 : Int), (0 : Int), false, (0 : Int), ([] : List UInt8), (4 : Int))) else (bif (!(y_9.1 == s)) then (some ((0 : Int), (0 : Int), false, (0 : Int), ([] : List UInt8), (4 : Int))) else (some (y_7, y_8, ((((s.getD 12 0).toNat : Nat) : Int) == (128 : Int)), (IntKind.wrap .i64 ((((s.getD 13 0).toNat : Nat) : Int))), ((s.take (IntKind.wrap .i64 ((15 : Int) + (if (16 : Int) < (IntKind.wrap .i64 ((((s.getD 14 0).toNat : Nat) : Int))) then (16 : Int) else (IntKind.wrap .i64 ((((s.getD 14 0).toNat : Nat) : Int)))))).toNat).drop 15), (0 : Int)))))) else none) else none) else none) else none)))) = some r := h
  refine TS.seq ?_
  have hq : (True) ∧ ((True) ∧ (True)) := ⟨trivial, ⟨trivial, trivial⟩⟩
  refine TS.reg [] ?_ ?_
  · apply prop_of ?_ hq
    kernel_rfl
  refine XS.then ?_
  refine TS.seq ?_
  refine TS.seq ?_
  have hq : (True) ∧ ((True) ∧ ((True) ∧ (True))) := ⟨trivial, ⟨trivial, ⟨trivial, trivial⟩⟩⟩
  refine TS.reg [] ?_ ?_
  · apply prop_of ?_ hq
    kernel_rfl
  refine XS.then ?_
  rcases bif_some h with ⟨c1, h⟩ | ⟨c2, h⟩
  · refine TS.cond (decide (((s.length : Nat) : Int) < (31 : Int))) ?_ (fun hcz => ?_) (fun hcz => by rw [c1] at hcz; cases hcz)
    · kernel_rfl
    refine TS.seq ?_
    have hq : (True) ∧ ((True) ∧ ((True) ∧ (True))) := ⟨trivial, ⟨trivial, ⟨trivial, trivial⟩⟩⟩
    refine TS.reg [] ?_ ?_
    · apply prop_of ?_ hq
      kernel_rfl
    refine XS.then ?_
    refine TS.ret ?_
    refine XS.passR ?_
    obtain rfl : ((0 : Int), (0 : Int), false, (0 : Int), ([] : List UInt8), (3 : Int)) = r := Option.some.inj h
    exact XS.fin [] ((True) ∧ ((True) ∧ (True))) (by kernel_rfl) ⟨trivial, ⟨trivial, trivial⟩⟩
  · refine TS.cond (decide (((s.length : Nat) : Int) < (31 : Int))) ?_ (fun hcz => by rw [c2] at hcz; cases hcz) (fun hcz => ?_)
    · kernel_rfl
    refine TS.skip ?_
    refine XS.then ?_
    refine TS.seq ?_
    obtain ⟨y_7, hx3, h⟩ := bind_some' h
    obtain ⟨y_8, hx4, h⟩ := bind_some' h
    obtain ⟨t5, h⟩ := test_some h
    obtain ⟨t6, h⟩ := test_some h
    obtain ⟨t7, h⟩ := test_some h
    obtain ⟨t8, h⟩ := test_some h
    have hq : ((True) ∧ ((PureC Try.prog 62 [(.str s), (.int .i64 (4 : Int))] (.int .i64 y_7) []) ∧ ((True) ∧ ((PureC Try.prog 62 [(.str s), (.int .i64 (8 : Int))] (.int .i64 y_8) []) ∧ ((True) ∧ ((inR (12 : Int) s.length) ∧ ((True) ∧ ((True) ∧ ((inR (13 : Int) s.length) ∧ ((True) ∧ ((True) ∧ ((True) ∧ ((inR (14 : Int) s.length) ∧ ((True) ∧ ((True) ∧ ((True) ∧ ((subC s.length (some (15 : Int)) (some (IntKind.wrap .i64 ((15 : Int) + (if (16 : Int) < (IntKind.wrap .i64 ((((s.getD 14 0).toNat : Nat) : Int))) then (16 : Int) else (IntKind.wrap .i64 ((((s.getD 14 0).toNat : Nat) : Int)))))))) ∧ (((True) ∧ ((True) ∧ ((True) ∧ ((True) ∧ ((True) ∧ (True)))))) ∧ ((True) ∧ (True)))))))))))))))))))) ∧ ((True) ∧ (True)) := ⟨⟨trivial, ⟨F62_ok n s (4 : Int) y_7 hx3, ⟨trivial, ⟨F62_ok n s (8 : Int) y_8 hx4, ⟨trivial, ⟨inb_ok t5, ⟨trivial, ⟨trivial, ⟨inb_ok t6, ⟨trivial, ⟨trivial, ⟨trivial, ⟨inb_ok t7, ⟨trivial, ⟨trivial, ⟨trivial, ⟨subB_ok t8, ⟨⟨trivial, ⟨trivial, ⟨trivial, ⟨trivial, ⟨trivial, trivial⟩⟩⟩⟩⟩, ⟨trivial, trivial⟩⟩⟩⟩⟩⟩⟩⟩⟩⟩⟩⟩⟩⟩⟩⟩⟩⟩⟩, ⟨trivial, trivial⟩⟩
    refine TS.draw 19 [] [.none, (.call (.int .i64 y_7) []), .none, (.call (.int .i64 y_8) [])] (by kernel_rfl) ?_ ?_
    · apply prop_of ?_ hq
      kernel_rfl
    refine XS.then ?_
    refine TS.seq ?_
    refine TS.seq ?_
    obtain ⟨y_9, hx9, h⟩ := bind_some' h
    have hq : (True) ∧ ((PureC Try.prog 42 [(.st (.cons (.int .i64 y_7) (.cons (.int .i64 y_8) (.cons (.bool ((((s.getD 12 0).toNat : Nat) : Int) == (128 : Int))) (.cons (.int .i64 (IntKind.wrap .i64 ((((s.getD 13 0).toNat : Nat) : Int)))) (.str ((s.take (IntKind.wrap .i64 ((15 : Int) + (if (16 : Int) < (IntKind.wrap .i64 ((((s.getD 14 0).toNat : Nat) : Int))) then (16 : Int) else (IntKind.wrap .i64 ((((s.getD 14 0).toNat : Nat) : Int)))))).toNat).drop 15)))))))] (.tup (.cons (.str y_9.1) (.cons (.int .i64 y_9.2) .nil))) []) ∧ ((True) ∧ ((True) ∧ ((True) ∧ ((True) ∧ ((True) ∧ (True))))))) := ⟨trivial, ⟨F42_ok n y_7 y_8 ((((s.getD 12 0).toNat : Nat) : Int) == (128 : Int)) (IntKind.wrap .i64 ((((s.getD 13 0).toNat : Nat) : Int))) ((s.take (IntKind.wrap .i64 ((15 : Int) + (if (16 : Int) < (IntKind.wrap .i64 ((((s.getD 14 0).toNat : Nat) : Int))) then (16 : Int) else (IntKind.wrap .i64 ((((s.getD 14 0).toNat : Nat) : Int)))))).toNat).drop 15) y_9 hx9, ⟨trivial, ⟨trivial, ⟨trivial, ⟨trivial, ⟨trivial, trivial⟩⟩⟩⟩⟩⟩⟩
    refine TS.reg [.none, (.call (.tup (.cons (.str y_9.1) (.cons (.int .i64 y_9.2) .nil))) [])] ?_ ?_
    · apply prop_of ?_ hq
      kernel_rfl
    refine XS.then ?_
    refine TS.seq ?_
    rcases bif_some h with ⟨c10, h⟩ | ⟨c11, h⟩
    · have hq : (True) ∧ ((True) ∧ (((True) ∧ (y_9.2 != (0 : Int)) = true) ∧ ((True) ∧ (True)))) := ⟨trivial, ⟨trivial, ⟨⟨trivial, c10⟩, ⟨trivial, trivial⟩⟩⟩⟩
      refine TS.reg [.none, .none, .dec true] ?_ ?_
      · apply prop_of ?_ hq
        kernel_rfl
      refine XS.then ?_
      refine TS.yes ?_ ?_
      · kernel_rfl
      refine TS.seq ?_
      have hq : (True) ∧ ((True) ∧ ((True) ∧ (True))) := ⟨trivial, ⟨trivial, ⟨trivial, trivial⟩⟩⟩
      refine TS.reg [] ?_ ?_
      · apply prop_of ?_ hq
        kernel_rfl
      refine XS.then ?_
      refine TS.ret ?_
      refine XS.passR ?_
      obtain rfl : ((0 : Int), (0 : Int), false, (0 : Int), ([] : List UInt8), (4 : Int)) = r := Option.some.inj h
      exact XS.fin [] ((True) ∧ ((True) ∧ (True))) (by kernel_rfl) ⟨trivial, ⟨trivial, trivial⟩⟩
    · have hq : (True) ∧ ((True) ∧ (((True) ∧ (y_9.2 != (0 : Int)) = false) ∧ ((True) ∧ ((True) ∧ ((True) ∧ ((True) ∧ (True))))))) := ⟨trivial, ⟨trivial, ⟨⟨trivial, c11⟩, ⟨trivial, ⟨trivial, ⟨trivial, ⟨trivial, trivial⟩⟩⟩⟩⟩⟩⟩
      refine TS.reg [.none, .none, .dec false] ?_ ?_
      · apply prop_of ?_ hq
        kernel_rfl
      refine XS.then ?_
      rcases bif_some h with ⟨c12, h⟩ | ⟨c13, h⟩
      · refine TS.cond (!(y_9.1 == s)) ?_ (fun hcz => ?_) (fun hcz => by rw [c12] at hcz; cases hcz)
        · kernel_rfl
        refine TS.seq ?_
        have hq : (True) ∧ ((True) ∧ ((True) ∧ (True))) := ⟨trivial, ⟨trivial, ⟨trivial, trivial⟩⟩⟩
        refine TS.reg [] ?_ ?_
        · apply prop_of ?_ hq
          kernel_rfl
        refine XS.then ?_
        refine TS.ret ?_
        refine XS.passR ?_
        obtain rfl : ((0 : Int), (0 : Int), false, (0 : Int), ([] : List UInt8), (4 : Int)) = r := Option.some.inj h
        exact XS.fin [] ((True) ∧ ((True) ∧ (True))) (by kernel_rfl) ⟨trivial, ⟨trivial, trivial⟩⟩
      · refine TS.cond (!(y_9.1 == s)) ?_ (fun hcz => by rw [c13] at hcz; cases hcz) (fun hcz => ?_)
        · kernel_rfl
        refine TS.skip ?_
        refine XS.then ?_
        refine TS.seq ?_
        have hq : (True) ∧ ((True) ∧ ((True) ∧ (True))) := ⟨trivial, ⟨trivial, ⟨trivial, trivial⟩⟩⟩
        refine TS.reg [] ?_ ?_
        · apply prop_of ?_ hq
          kernel_rfl
        refine XS.then ?_
        refine TS.ret ?_
        obtain rfl : (y_7, y_8, ((((s.getD 12 0).toNat : Nat) : Int) == (128 : Int)), (IntKind.wrap .i64 ((((s.getD 13 0).toNat : Nat) : Int))), ((s.take (IntKind.wrap .i64 ((15 : Int) + (if (16 : Int) < (IntKind.wrap .i64 ((((s.getD 14 0).toNat : Nat) : Int))) then (16 : Int) else (IntKind.wrap .i64 ((((s.getD 14 0).toNat : Nat) : Int)))))).toNat).drop 15), (0 : Int)) = r := Option.some.inj h
        exact XS.fin [] ((True) ∧ ((True) ∧ (True))) (by kernel_rfl) ⟨trivial, ⟨trivial, trivial⟩⟩

/-! slices.Clone[[]string,string] -/
def F21 (n : Nat) (s : List (List UInt8)) : Option (List (List UInt8)) := (bif (decide (([] : List (List UInt8)).length + s.length ≤ 8796093022208)) then (some (([] : List (List UInt8)) ++ s)) else none)
theorem F21_ok (n : Nat) (s : List (List UInt8)) (r : List (List UInt8)) (h : F21 n s = some r) : PureC Try.prog 21 [(.sl .str s)] (.row 0) [(.row 9 .str r)] := by
  refine PureC.mkS Try.func21 rfl rfl ?_
  intro w0 fz0 hfz
  replace h : (bif (decide (([] : List (List UInt8)).length + s.length ≤ 8796093022208)) then (some (([] : List (List UInt8)) ++ s)) else none) = some r := h
  refine TS.seq ?_
  have hq : (True) ∧ (True) := ⟨trivial, trivial⟩
  refine TS.reg [] ?_ ?_
  · apply prop_of ?_ hq
    kernel_rfl
  refine XS.then ?_
  refine TS.seq ?_
  refine TS.seq ?_
  have hq : (True) ∧ (True) := ⟨trivial, trivial⟩
  refine TS.nilReg 1 [] .str s ?_ (by kernel_rfl) ?_
  · apply prop_of ?_ hq
    kernel_rfl
  · intro b2 hb4
    cases b2
    · clear hb4
      refine XS.then ?_
      refine TS.no ?_ ?_
      · kernel_rfl
      refine TS.skip ?_
      refine XS.then ?_
      refine TS.seq ?_
      obtain ⟨t1, h⟩ := test_some h
      have hq : (True) ∧ ((True) ∧ ((([] : List (List UInt8)).length + s.length ≤ 8796093022208) ∧ ((True) ∧ (True)))) := ⟨trivial, ⟨trivial, ⟨of_decide_eq_true t1, ⟨trivial, trivial⟩⟩⟩⟩
      refine TS.reg [] ?_ ?_
      · apply prop_of ?_ hq
        kernel_rfl
      refine XS.then ?_
      refine TS.ret ?_
      obtain rfl : (([] : List (List UInt8)) ++ s) = r := Option.some.inj h
      exact XS.fin [1] ((True) ∧ (True)) (by kernel_rfl) ⟨trivial, trivial⟩
    · have e3 := hb4 rfl
      replace h : (some ([] : List (List UInt8))) = some r := by first | exact h | (rw [e3] at h ⊢; exact h) | simpa [e3] using h
      refine XS.then ?_
      refine TS.yes ?_ ?_
      · kernel_rfl
      refine TS.seq ?_
      have hq : (True) ∧ (True) := ⟨trivial, trivial⟩
      refine TS.reg [] ?_ ?_
      · apply prop_of ?_ hq
        kernel_rfl
      refine XS.then ?_
      refine TS.ret ?_
      refine XS.passR ?_
      obtain rfl : ([] : List (List UInt8)) = r := Option.some.inj h
      refine XS.wk (.row false 2 [] 9 .str) ?_
      exact XS.fin [0] ((True) ∧ (True)) (by kernel_rfl) ⟨trivial, trivial⟩

/-! plugtree/scsi.fields -/
def F85_j6 (n : Nat) : Bool → Option (Bool × (List Int))
  | x_3 => (bif x_3 then (some (true, [(2 : Int), (3 : Int), (4 : Int), (5 : Int), (7 : Int), (8 : Int)])) else (some (false, ([] : List Int))))
def F85_j5 (n : Nat) (op : Int) : Bool → Option (Bool × (List Int))
  | x_2 => (bif x_2 then (some (true, [(4 : Int)])) else (bif (op == (26 : Int)) then (some (true, [(2 : Int), (4 : Int)])) else (bif (op == (40 : Int)) then (F85_j6 n (op == (40 : Int))) else (bif (op == (42 : Int)) then (F85_j6 n (op == (42 : Int))) else (F85_j6 n (op == (53 : Int)))))))
def F85_j4 (n : Nat) (op : Int) : Bool → Option (Bool × (List Int))
  | x => (bif x then (some (true, ([] : List Int))) else (bif (op == (3 : Int)) then (F85_j5 n op (op == (3 : Int))) else (F85_j5 n op (op == (18 : Int)))))
def F85 (n : Nat) (op : Int) : Option (Bool × (List Int)) := (bif (op == (0 : Int)) then (F85_j4 n op (op == (0 : Int))) else (F85_j4 n op (op == (37 : Int))))
theorem F85_ok (n : Nat) (op : Int) (r : Bool × (List Int)) (h : F85 n op = some r) : PureC Try.prog 85 [(.int .u8 op)] (.tup (.cons (.row 0) (.cons (.bool r.1) .nil))) [(.row 3 (.int .i64) r.2)] := by
  refine PureC.mkS Try.func85 rfl rfl ?_
  intro w0 fz0 hfz
  replace h : (bif (op == (0 : Int)) then (F85_j4 n op (op == (0 : Int))) else (F85_j4 n op (op == (37 : Int)))) = some r := h
  refine TS.seq ?_
  have hq : (True) ∧ ((True) ∧ (True)) := ⟨trivial, ⟨trivial, trivial⟩⟩
  refine TS.reg [] ?_ ?_
  · apply prop_of ?_ hq
    kernel_rfl
  refine XS.then ?_
  refine TS.seq ?_
  refine TS.seq ?_
  have hq : (True) ∧ (True) := ⟨trivial, trivial⟩
  refine TS.reg [] ?_ ?_
  · apply prop_of ?_ hq
    kernel_rfl
  refine XS.then ?_
  refine TS.block ?_
  refine TS.seq ?_
  refine TS.seq ?_
  have hq : (True) ∧ ((True) ∧ (True)) := ⟨trivial, ⟨trivial, trivial⟩⟩
  refine TS.reg [] ?_ ?_
  · apply prop_of ?_ hq
    kernel_rfl
  refine XS.then ?_
  refine TS.cut (D := Bool) (fun d => match d with | x => (mkTs 20 [(4, (.int .u8 op)), (5, (.bool x))], [])) (fun d => F85_j4 n op d = some r) ?_ ?_
  · rintro x h
    replace h : (bif x then (some (true, ([] : List Int))) else (bif (op == (3 : Int)) then (F85_j5 n op (op == (3 : Int))) else (F85_j5 n op (op == (18 : Int))))) = some r := h
    refine XS.then ?_
    rcases bif_some h with ⟨c1, h⟩ | ⟨c2, h⟩
    · refine TS.cond x ?_ (fun hcz => ?_) (fun hcz => by rw [c1] at hcz; cases hcz)
      · kernel_rfl
      refine TS.seq ?_
      have hq : (True) ∧ ((True) ∧ (True)) := ⟨trivial, ⟨trivial, trivial⟩⟩
      refine TS.reg [] ?_ ?_
      · apply prop_of ?_ hq
        kernel_rfl
      refine XS.then ?_
      refine TS.ret ?_
      refine XS.blockRet ?_
      refine XS.passR ?_
      obtain rfl : (true, ([] : List Int)) = r := Option.some.inj h
      refine XS.wk (.row false 2 [] 3 (.int .i64)) ?_
      exact XS.fin [0] ((True) ∧ ((True) ∧ (True))) (by kernel_rfl) ⟨trivial, ⟨trivial, trivial⟩⟩
    · refine TS.cond x ?_ (fun hcz => by rw [c2] at hcz; cases hcz) (fun hcz => ?_)
      · kernel_rfl
      refine TS.seq ?_
      refine TS.seq ?_
      have hq : (True) ∧ ((True) ∧ (True)) := ⟨trivial, ⟨trivial, trivial⟩⟩
      refine TS.reg [] ?_ ?_
      · apply prop_of ?_ hq
        kernel_rfl
      refine XS.then ?_
      refine TS.cut (D := Bool) (fun d => match d with | x_2 => (mkTs 20 [(4, (.int .u8 op)), (8, (.bool x_2))], [])) (fun d => F85_j5 n op d = some r) ?_ ?_
      · rintro x_2 h
        replace h : (bif x_2 then (some (true, [(4 : Int)])) else (bif (op == (26 : Int)) then (some (true, [(2 : Int), (4 : Int)])) else (bif (op == (40 : Int)) then (F85_j6 n (op == (40 : Int))) else (bif (op == (42 : Int)) then (F85_j6 n (op == (42 : Int))) else (F85_j6 n (op == (53 : Int))))))) = some r := h
        refine XS.then ?_
        rcases bif_some h with ⟨c3, h⟩ | ⟨c4, h⟩
        · refine TS.cond x_2 ?_ (fun hcz => ?_) (fun hcz => by rw [c3] at hcz; cases hcz)
          · kernel_rfl
          refine TS.seq ?_
          have hq : ((0 < 1 ∧ True) ∧ (True)) ∧ ((True) ∧ ((True) ∧ (True))) := ⟨⟨⟨by decide, trivial⟩, trivial⟩, ⟨trivial, ⟨trivial, trivial⟩⟩⟩
          refine TS.reg [] ?_ ?_
          · apply prop_of ?_ hq
            kernel_rfl
          refine XS.then ?_
          refine TS.ret ?_
          refine XS.blockRet ?_
          refine XS.passR ?_
          obtain rfl : (true, [(4 : Int)]) = r := Option.some.inj h
          exact XS.fin [0] ((True) ∧ ((True) ∧ (True))) (by kernel_rfl) ⟨trivial, ⟨trivial, trivial⟩⟩
        · refine TS.cond x_2 ?_ (fun hcz => by rw [c4] at hcz; cases hcz) (fun hcz => ?_)
          · kernel_rfl
          refine TS.seq ?_
          have hq : (True) ∧ ((True) ∧ (True)) := ⟨trivial, ⟨trivial, trivial⟩⟩
          refine TS.reg [] ?_ ?_
          · apply prop_of ?_ hq
            kernel_rfl
          refine XS.then ?_
          rcases bif_some h with ⟨c5, h⟩ | ⟨c6, h⟩
          · refine TS.cond (op == (26 : Int)) ?_ (fun hcz => ?_) (fun hcz => by rw [c5] at hcz; cases hcz)
            · kernel_rfl
            refine TS.seq ?_
            have hq : ((0 < 2 ∧ True) ∧ ((1 < 2 ∧ True) ∧ (True))) ∧ ((True) ∧ ((True) ∧ (True))) := ⟨⟨⟨by decide, trivial⟩, ⟨⟨by decide, trivial⟩, trivial⟩⟩, ⟨trivial, ⟨trivial, trivial⟩⟩⟩
            refine TS.reg [] ?_ ?_
            · apply prop_of ?_ hq
              kernel_rfl
            refine XS.then ?_
            refine TS.ret ?_
            refine XS.blockRet ?_
            refine XS.passR ?_
            obtain rfl : (true, [(2 : Int), (4 : Int)]) = r := Option.some.inj h
            exact XS.fin [0] ((True) ∧ ((True) ∧ (True))) (by kernel_rfl) ⟨trivial, ⟨trivial, trivial⟩⟩
          · refine TS.cond (op == (26 : Int)) ?_ (fun hcz => by rw [c6] at hcz; cases hcz) (fun hcz => ?_)
            · kernel_rfl
            refine TS.seq ?_
            refine TS.seq ?_
            have hq : (True) ∧ ((True) ∧ (True)) := ⟨trivial, ⟨trivial, trivial⟩⟩
            refine TS.reg [] ?_ ?_
            · apply prop_of ?_ hq
              kernel_rfl
            refine XS.then ?_
            refine TS.cut (D := Bool) (fun d => match d with | x_3 => (mkTs 20 [(15, (.bool x_3))], [])) (fun d => F85_j6 n d = some r) ?_ ?_
            · rintro x_3 h
              replace h : (bif x_3 then (some (true, [(2 : Int), (3 : Int), (4 : Int), (5 : Int), (7 : Int), (8 : Int)])) else (some (false, ([] : List Int)))) = some r := h
              refine XS.then ?_
              rcases bif_some h with ⟨c7, h⟩ | ⟨c8, h⟩
              · refine TS.cond x_3 ?_ (fun hcz => ?_) (fun hcz => by rw [c7] at hcz; cases hcz)
                · kernel_rfl
                refine TS.seq ?_
                have hq : ((0 < 6 ∧ True) ∧ ((1 < 6 ∧ True) ∧ ((2 < 6 ∧ True) ∧ ((3 < 6 ∧ True) ∧ ((4 < 6 ∧ True) ∧ ((5 < 6 ∧ True) ∧ (True))))))) ∧ ((True) ∧ ((True) ∧ (True))) := ⟨⟨⟨by decide, trivial⟩, ⟨⟨by decide, trivial⟩, ⟨⟨by decide, trivial⟩, ⟨⟨by decide, trivial⟩, ⟨⟨by decide, trivial⟩, ⟨⟨by decide, trivial⟩, trivial⟩⟩⟩⟩⟩⟩, ⟨trivial, ⟨trivial, trivial⟩⟩⟩
                refine TS.reg [] ?_ ?_
                · apply prop_of ?_ hq
                  kernel_rfl
                refine XS.then ?_
                refine TS.ret ?_
                refine XS.blockRet ?_
                refine XS.passR ?_
                obtain rfl : (true, [(2 : Int), (3 : Int), (4 : Int), (5 : Int), (7 : Int), (8 : Int)]) = r := Option.some.inj h
                exact XS.fin [0] ((True) ∧ ((True) ∧ (True))) (by kernel_rfl) ⟨trivial, ⟨trivial, trivial⟩⟩
              · refine TS.cond x_3 ?_ (fun hcz => by rw [c8] at hcz; cases hcz) (fun hcz => ?_)
                · kernel_rfl
                refine TS.skip ?_
                refine XS.blockEnd ?_
                refine XS.then ?_
                refine TS.seq ?_
                have hq : (True) ∧ ((True) ∧ (True)) := ⟨trivial, ⟨trivial, trivial⟩⟩
                refine TS.reg [] ?_ ?_
                · apply prop_of ?_ hq
                  kernel_rfl
                refine XS.then ?_
                refine TS.ret ?_
                obtain rfl : (false, ([] : List Int)) = r := Option.some.inj h
                refine XS.wk (.row false 2 [] 3 (.int .i64)) ?_
                exact XS.fin [0] ((True) ∧ ((True) ∧ (True))) (by kernel_rfl) ⟨trivial, ⟨trivial, trivial⟩⟩
            · rcases bif_some h with ⟨c9, h⟩ | ⟨c10, h⟩
              · refine TS.cond (op == (40 : Int)) ?_ (fun hcz => ?_) (fun hcz => by rw [c9] at hcz; cases hcz)
                · kernel_rfl
                refine TS.skip ?_
                refine XS.reAny [] (mkMask 20 [15]) (op == (40 : Int)) h ?_
                kernel_rfl
              · refine TS.cond (op == (40 : Int)) ?_ (fun hcz => by rw [c10] at hcz; cases hcz) (fun hcz => ?_)
                · kernel_rfl
                refine TS.seq ?_
                have hq : (True) ∧ ((True) ∧ (True)) := ⟨trivial, ⟨trivial, trivial⟩⟩
                refine TS.reg [] ?_ ?_
                · apply prop_of ?_ hq
                  kernel_rfl
                refine XS.then ?_
                rcases bif_some h with ⟨c11, h⟩ | ⟨c12, h⟩
                · refine TS.cond (op == (42 : Int)) ?_ (fun hcz => ?_) (fun hcz => by rw [c11] at hcz; cases hcz)
                  · kernel_rfl
                  refine TS.skip ?_
                  refine XS.reAny [] (mkMask 20 [15]) (op == (42 : Int)) h ?_
                  kernel_rfl
                · refine TS.cond (op == (42 : Int)) ?_ (fun hcz => by rw [c12] at hcz; cases hcz) (fun hcz => ?_)
                  · kernel_rfl
                  have hq : (True) ∧ ((True) ∧ (True)) := ⟨trivial, ⟨trivial, trivial⟩⟩
                  refine TS.reg [] ?_ ?_
                  · apply prop_of ?_ hq
                    kernel_rfl
                  refine XS.reAny [] (mkMask 20 [15]) (op == (53 : Int)) h ?_
                  kernel_rfl
      · rcases bif_some h with ⟨c13, h⟩ | ⟨c14, h⟩
        · refine TS.cond (op == (3 : Int)) ?_ (fun hcz => ?_) (fun hcz => by rw [c13] at hcz; cases hcz)
          · kernel_rfl
          refine TS.skip ?_
          refine XS.reAny [] (mkMask 20 [4, 8]) (op == (3 : Int)) h ?_
          kernel_rfl
        · refine TS.cond (op == (3 : Int)) ?_ (fun hcz => by rw [c14] at hcz; cases hcz) (fun hcz => ?_)
          · kernel_rfl
          have hq : (True) ∧ ((True) ∧ (True)) := ⟨trivial, ⟨trivial, trivial⟩⟩
          refine TS.reg [] ?_ ?_
          · apply prop_of ?_ hq
            kernel_rfl
          refine XS.reAny [] (mkMask 20 [4, 8]) (op == (18 : Int)) h ?_
          kernel_rfl
  · rcases bif_some h with ⟨c15, h⟩ | ⟨c16, h⟩
    · refine TS.cond (op == (0 : Int)) ?_ (fun hcz => ?_) (fun hcz => by rw [c15] at hcz; cases hcz)
      · kernel_rfl
      refine TS.skip ?_
      refine XS.reAny [] (mkMask 20 [4, 5]) (op == (0 : Int)) h ?_
      kernel_rfl
    · refine TS.cond (op == (0 : Int)) ?_ (fun hcz => by rw [c16] at hcz; cases hcz) (fun hcz => ?_)
      · kernel_rfl
      have hq : (True) ∧ ((True) ∧ (True)) := ⟨trivial, ⟨trivial, trivial⟩⟩
      refine TS.reg [] ?_ ?_
      · apply prop_of ?_ hq
        kernel_rfl
      refine XS.reAny [] (mkMask 20 [4, 5]) (op == (37 : Int)) h ?_
      kernel_rfl

/-! plugtree/scsi.form -/
def F53_l4 (n : Nat) (c : List UInt8) (y_3 : Bool × (List Int)) (vn : Int) (k53_4 : Int → Option (Int × Bool)) : Int → Option (Int × Bool)
  | i => (bif (decide (i < vn)) then (bif inb i c.length then (bif ((((c.getD i.toNat 0).toNat : Nat) : Int) != (0 : Int)) then ((F52 n y_3.2 i).bind fun y_4 => (bif (!y_4) then (some ((36 : Int), true)) else (k53_4 (IntKind.wrap .i64 (i + (1 : Int)))))) else (k53_4 (IntKind.wrap .i64 (i + (1 : Int))))) else none) else (bif ((((c.getD 0 0).toNat : Nat) : Int) == (26 : Int)) then (bif inb (2 : Int) c.length then (bif ((((c.getD 2 0).toNat : Nat) : Int) != (63 : Int)) then (some ((36 : Int), true)) else (some ((0 : Int), false))) else none) else (some ((0 : Int), false))))
def F53_j3 (n : Nat) (c : List UInt8) (y_3 : Bool × (List Int)) : Int → Option (Int × Bool)
  | vn => (bif (((c.length : Nat) : Int) != vn) then (some ((36 : Int), true)) else (loopF (F53_l4 n c y_3 vn) n (1 : Int)))
def F53 (n : Nat) (c : List UInt8) : Option (Int × Bool) := (bif (c == ([] : List UInt8)) then (some ((32 : Int), true)) else (bif inb (0 : Int) c.length then ((F85 n (((c.getD 0 0).toNat : Nat) : Int)).bind fun y_3 => (bif (!y_3.1) then (some ((32 : Int), true)) else (bif (decide ((((c.getD 0 0).toNat : Nat) : Int) < (32 : Int))) then (F53_j3 n c y_3 (6 : Int)) else (F53_j3 n c y_3 (10 : Int))))) else none))
theorem F53_ok (n : Nat) (c : List UInt8) (r : Int × Bool) (h : F53 n c = some r) : PureC Try.prog 53 [(.str c)] (.ifc 60 (.int .i64) r.1 r.2) [] := by
  refine PureC.mkS Try.func53 rfl rfl ?_
  intro w0 fz0 hfz
  replace h : (bif (c == ([] : List UInt8)) then (some ((32 : Int), true)) else (bif inb (0 : Int) c.length then ((F85 n (((c.getD 0 0).toNat : Nat) : Int)).bind fun y_3 => (bif (!y_3.1) then (some ((32 : Int), true)) else (bif (decide ((((c.getD 0 0).toNat : Nat) : Int) < (32 : Int))) then (F53_j3 n c y_3 (6 : Int)) else (F53_j3 n c y_3 (10 : Int))))) else none)) = some r := h
  refine TS.seq ?_
  have hq : (True) ∧ (True) := ⟨trivial, trivial⟩
  refine TS.reg [] ?_ ?_
  · apply prop_of ?_ hq
    kernel_rfl
  refine XS.then ?_
  refine TS.seq ?_
  refine TS.seq ?_
  have hq : (True) ∧ ((True) ∧ (True)) := ⟨trivial, ⟨trivial, trivial⟩⟩
  refine TS.reg [] ?_ ?_
  · apply prop_of ?_ hq
    kernel_rfl
  refine XS.then ?_
  rcases bif_some h with ⟨c1, h⟩ | ⟨c2, h⟩
  · refine TS.cond (c == ([] : List UInt8)) ?_ (fun hcz => ?_) (fun hcz => by rw [c1] at hcz; cases hcz)
    · kernel_rfl
    refine TS.seq ?_
    have hq : (True) ∧ ((True) ∧ (True)) := ⟨trivial, ⟨trivial, trivial⟩⟩
    refine TS.reg [] ?_ ?_
    · apply prop_of ?_ hq
      kernel_rfl
    refine XS.then ?_
    refine TS.ret ?_
    refine XS.passR ?_
    obtain rfl : ((32 : Int), true) = r := Option.some.inj h
    exact XS.fin [] ((True) ∧ (True)) (by kernel_rfl) ⟨trivial, trivial⟩
  · refine TS.cond (c == ([] : List UInt8)) ?_ (fun hcz => by rw [c2] at hcz; cases hcz) (fun hcz => ?_)
    · kernel_rfl
    refine TS.skip ?_
    refine XS.then ?_
    refine TS.seq ?_
    obtain ⟨t3, h⟩ := test_some h
    obtain ⟨y_3, hx4, h⟩ := bind_some' h
    have hq : (True) ∧ ((inR (0 : Int) c.length) ∧ ((PureC Try.prog 85 [(.int .u8 (((c.getD 0 0).toNat : Nat) : Int))] (.tup (.cons (.row 0) (.cons (.bool y_3.1) .nil))) [(.row 3 (.int .i64) y_3.2)]) ∧ ((True) ∧ ((True) ∧ ((True) ∧ ((True) ∧ ((True) ∧ (True)))))))) := ⟨trivial, ⟨inb_ok t3, ⟨F85_ok n (((c.getD 0 0).toNat : Nat) : Int) y_3 hx4, ⟨trivial, ⟨trivial, ⟨trivial, ⟨trivial, ⟨trivial, trivial⟩⟩⟩⟩⟩⟩⟩⟩
    refine TS.reg [.none, .none, (.call (.tup (.cons (.row 0) (.cons (.bool y_3.1) .nil))) [(.row 3 (.int .i64) y_3.2)])] ?_ ?_
    · apply prop_of ?_ hq
      kernel_rfl
    refine XS.then ?_
    refine TS.seq ?_
    refine TS.seq ?_
    have hq : (True) ∧ ((True) ∧ (True)) := ⟨trivial, ⟨trivial, trivial⟩⟩
    refine TS.reg [] ?_ ?_
    · apply prop_of ?_ hq
      kernel_rfl
    refine XS.then ?_
    rcases bif_some h with ⟨c5, h⟩ | ⟨c6, h⟩
    · refine TS.cond (!y_3.1) ?_ (fun hcz => ?_) (fun hcz => by rw [c5] at hcz; cases hcz)
      · kernel_rfl
      refine TS.seq ?_
      have hq : (True) ∧ ((True) ∧ (True)) := ⟨trivial, ⟨trivial, trivial⟩⟩
      refine TS.reg [] ?_ ?_
      · apply prop_of ?_ hq
        kernel_rfl
      refine XS.then ?_
      refine TS.ret ?_
      refine XS.passR ?_
      obtain rfl : ((32 : Int), true) = r := Option.some.inj h
      exact XS.fin [] ((True) ∧ (True)) (by kernel_rfl) ⟨trivial, trivial⟩
    · refine TS.cond (!y_3.1) ?_ (fun hcz => by rw [c6] at hcz; cases hcz) (fun hcz => ?_)
      · kernel_rfl
      refine TS.skip ?_
      refine XS.then ?_
      refine TS.seq ?_
      have hq : (True) ∧ (True) := ⟨trivial, trivial⟩
      refine TS.reg [] ?_ ?_
      · apply prop_of ?_ hq
        kernel_rfl
      refine XS.then ?_
      refine TS.seq ?_
      refine TS.seq ?_
      have hq : (True) ∧ ((inR (0 : Int) c.length) ∧ ((True) ∧ (True))) := ⟨trivial, ⟨inb_ok t3, ⟨trivial, trivial⟩⟩⟩
      refine TS.reg [] ?_ ?_
      · apply prop_of ?_ hq
        kernel_rfl
      refine XS.then ?_
      refine TS.cut (D := Int) (fun d => match d with | vn => (mkTs 52 [(0, (.str c)), (3, (.row 0)), (5, (.int .i64 vn))], [(.row 3 (.int .i64) y_3.2)])) (fun d => F53_j3 n c y_3 d = some r) ?_ ?_
      · rintro vn h
        replace h : (bif (((c.length : Nat) : Int) != vn) then (some ((36 : Int), true)) else (loopF (F53_l4 n c y_3 vn) n (1 : Int))) = some r := h
        refine XS.then ?_
        refine TS.seq ?_
        refine TS.seq ?_
        have hq : (True) ∧ ((True) ∧ ((True) ∧ ((True) ∧ (True)))) := ⟨trivial, ⟨trivial, ⟨trivial, ⟨trivial, trivial⟩⟩⟩⟩
        refine TS.reg [] ?_ ?_
        · apply prop_of ?_ hq
          kernel_rfl
        refine XS.then ?_
        rcases bif_some h with ⟨c7, h⟩ | ⟨c8, h⟩
        · refine TS.cond (((c.length : Nat) : Int) != vn) ?_ (fun hcz => ?_) (fun hcz => by rw [c7] at hcz; cases hcz)
          · kernel_rfl
          refine TS.seq ?_
          have hq : (True) ∧ ((True) ∧ (True)) := ⟨trivial, ⟨trivial, trivial⟩⟩
          refine TS.reg [] ?_ ?_
          · apply prop_of ?_ hq
            kernel_rfl
          refine XS.then ?_
          refine TS.ret ?_
          refine XS.passR ?_
          obtain rfl : ((36 : Int), true) = r := Option.some.inj h
          exact XS.fin [] ((True) ∧ (True)) (by kernel_rfl) ⟨trivial, trivial⟩
        · refine TS.cond (((c.length : Nat) : Int) != vn) ?_ (fun hcz => by rw [c8] at hcz; cases hcz) (fun hcz => ?_)
          · kernel_rfl
          refine TS.skip ?_
          refine XS.then ?_
          refine TS.seq ?_
          refine TS.seq ?_
          have hq : (True) ∧ (True) := ⟨trivial, trivial⟩
          refine TS.reg [] ?_ ?_
          · apply prop_of ?_ hq
            kernel_rfl
          refine XS.then ?_
          refine TS.block ?_
          refine TS.reLoop [0] (mkMask 52 [0, 3, 5, 6]) (D := Int) (fun d => match d with | i => (mkTs 52 [(0, (.str c)), (3, (.row 0)), (5, (.int .i64 vn)), (6, (.int .i64 i))], [(.row 3 (.int .i64) y_3.2)])) (fun n' d => loopF (F53_l4 n c y_3 vn) n' d = some r) n (1 : Int) h ?_ (fun d => loopF_zero _ d r) ?_
          · kernel_rfl
          · rintro n4 i h
            replace h : (bif (decide (i < vn)) then (bif inb i c.length then (bif ((((c.getD i.toNat 0).toNat : Nat) : Int) != (0 : Int)) then ((F52 n y_3.2 i).bind fun y_4 => (bif (!y_4) then (some ((36 : Int), true)) else ((loopF (F53_l4 n c y_3 vn) n4) (IntKind.wrap .i64 (i + (1 : Int)))))) else ((loopF (F53_l4 n c y_3 vn) n4) (IntKind.wrap .i64 (i + (1 : Int))))) else none) else (bif ((((c.getD 0 0).toNat : Nat) : Int) == (26 : Int)) then (bif inb (2 : Int) c.length then (bif ((((c.getD 2 0).toNat : Nat) : Int) != (63 : Int)) then (some ((36 : Int), true)) else (some ((0 : Int), false))) else none) else (some ((0 : Int), false)))) = some r := h
            refine TS.seq ?_
            refine TS.seq ?_
            have hq : (True) ∧ ((True) ∧ ((True) ∧ (True))) := ⟨trivial, ⟨trivial, ⟨trivial, trivial⟩⟩⟩
            refine TS.reg [] ?_ ?_
            · apply prop_of ?_ hq
              kernel_rfl
            refine XS.then ?_
            rcases bif_some h with ⟨c9, h⟩ | ⟨c10, h⟩
            · refine TS.cond (decide (i < vn)) ?_ (fun hcz => ?_) (fun hcz => by rw [c9] at hcz; cases hcz)
              · kernel_rfl
              refine TS.skip ?_
              refine XS.then ?_
              refine TS.seq ?_
              refine TS.block ?_
              refine TS.seq ?_
              obtain ⟨t11, h⟩ := test_some h
              rcases bif_some h with ⟨c12, h⟩ | ⟨c13, h⟩
              · obtain ⟨y_4, hx14, h⟩ := bind_some' h
                have hq : (True) ∧ ((True) ∧ ((inR i c.length) ∧ ((True) ∧ (((True) ∧ ((((c.getD i.toNat 0).toNat : Nat) : Int) != (0 : Int)) = true) ∧ ((True) ∧ ((True) ∧ ((((True) ∧ ((True) ∧ (True))) ∧ PureC Try.prog 52 [(.sl (.int .i64) y_3.2), (.int .i64 i)] (.bool y_4) []) ∧ ((True) ∧ ((True) ∧ (True)))))))))) := ⟨trivial, ⟨trivial, ⟨inb_ok t11, ⟨trivial, ⟨⟨trivial, c12⟩, ⟨trivial, ⟨trivial, ⟨⟨⟨trivial, ⟨trivial, trivial⟩⟩, F52_ok n y_3.2 i y_4 hx14⟩, ⟨trivial, ⟨trivial, trivial⟩⟩⟩⟩⟩⟩⟩⟩⟩⟩
                refine TS.reg [.none, .none, .none, .none, .dec true, .none, .none, (.call (.bool y_4) [])] ?_ ?_
                · apply prop_of ?_ hq
                  kernel_rfl
                refine XS.then ?_
                rcases bif_some h with ⟨c15, h⟩ | ⟨c16, h⟩
                · refine TS.cond (!y_4) ?_ (fun hcz => ?_) (fun hcz => by rw [c15] at hcz; cases hcz)
                  · kernel_rfl
                  refine TS.seq ?_
                  have hq : (True) ∧ ((True) ∧ (True)) := ⟨trivial, ⟨trivial, trivial⟩⟩
                  refine TS.reg [] ?_ ?_
                  · apply prop_of ?_ hq
                    kernel_rfl
                  refine XS.then ?_
                  refine TS.ret ?_
                  refine XS.blockRet ?_
                  refine XS.passR ?_
                  refine XS.passR ?_
                  refine XS.blockRet ?_
                  refine XS.passR ?_
                  obtain rfl : ((36 : Int), true) = r := Option.some.inj h
                  exact XS.fin [] ((True) ∧ (True)) (by kernel_rfl) ⟨trivial, trivial⟩
                · refine TS.cond (!y_4) ?_ (fun hcz => by rw [c16] at hcz; cases hcz) (fun hcz => ?_)
                  · kernel_rfl
                  refine TS.skip ?_
                  refine XS.blockEnd ?_
                  refine XS.then ?_
                  have hq : (True) ∧ ((True) ∧ ((True) ∧ (True))) := ⟨trivial, ⟨trivial, ⟨trivial, trivial⟩⟩⟩
                  refine TS.reg [] ?_ ?_
                  · apply prop_of ?_ hq
                    kernel_rfl
                  refine XS.reAny [0] (mkMask 52 [0, 3, 5, 6]) (IntKind.wrap .i64 (i + (1 : Int))) h ?_
                  kernel_rfl
              · have hq : (True) ∧ ((True) ∧ ((inR i c.length) ∧ ((True) ∧ (((True) ∧ ((((c.getD i.toNat 0).toNat : Nat) : Int) != (0 : Int)) = false) ∧ ((True) ∧ (True)))))) := ⟨trivial, ⟨trivial, ⟨inb_ok t11, ⟨trivial, ⟨⟨trivial, c13⟩, ⟨trivial, trivial⟩⟩⟩⟩⟩⟩
                refine TS.reg [.none, .none, .none, .none, .dec false] ?_ ?_
                · apply prop_of ?_ hq
                  kernel_rfl
                refine XS.then ?_
                refine TS.no ?_ ?_
                · kernel_rfl
                refine TS.skip ?_
                refine XS.blockEnd ?_
                refine XS.then ?_
                have hq : (True) ∧ ((True) ∧ ((True) ∧ (True))) := ⟨trivial, ⟨trivial, ⟨trivial, trivial⟩⟩⟩
                refine TS.reg [] ?_ ?_
                · apply prop_of ?_ hq
                  kernel_rfl
                refine XS.reAny [0] (mkMask 52 [0, 3, 5, 6]) (IntKind.wrap .i64 (i + (1 : Int))) h ?_
                kernel_rfl
            · refine TS.cond (decide (i < vn)) ?_ (fun hcz => by rw [c10] at hcz; cases hcz) (fun hcz => ?_)
              · kernel_rfl
              refine TS.exit ?_
              refine XS.passE ?_
              refine XS.passE ?_
              refine XS.out ?_
              refine XS.then ?_
              refine TS.seq ?_
              refine TS.seq ?_
              rcases bif_some h with ⟨c17, h⟩ | ⟨c18, h⟩
              · obtain ⟨t19, h⟩ := test_some h
                have hq : (True) ∧ ((inR (0 : Int) c.length) ∧ ((True) ∧ (((True) ∧ ((((c.getD 0 0).toNat : Nat) : Int) == (26 : Int)) = true) ∧ ((True) ∧ ((inR (2 : Int) c.length) ∧ ((True) ∧ ((True) ∧ (True)))))))) := ⟨trivial, ⟨inb_ok t3, ⟨trivial, ⟨⟨trivial, c17⟩, ⟨trivial, ⟨inb_ok t19, ⟨trivial, ⟨trivial, trivial⟩⟩⟩⟩⟩⟩⟩⟩
                refine TS.reg [.none, .none, .none, .dec true] ?_ ?_
                · apply prop_of ?_ hq
                  kernel_rfl
                refine XS.then ?_
                rcases bif_some h with ⟨c20, h⟩ | ⟨c21, h⟩
                · refine TS.cond ((((c.getD 2 0).toNat : Nat) : Int) != (63 : Int)) ?_ (fun hcz => ?_) (fun hcz => by rw [c20] at hcz; cases hcz)
                  · kernel_rfl
                  refine TS.seq ?_
                  have hq : (True) ∧ ((True) ∧ (True)) := ⟨trivial, ⟨trivial, trivial⟩⟩
                  refine TS.reg [] ?_ ?_
                  · apply prop_of ?_ hq
                    kernel_rfl
                  refine XS.then ?_
                  refine TS.ret ?_
                  refine XS.passR ?_
                  obtain rfl : ((36 : Int), true) = r := Option.some.inj h
                  exact XS.fin [] ((True) ∧ (True)) (by kernel_rfl) ⟨trivial, trivial⟩
                · refine TS.cond ((((c.getD 2 0).toNat : Nat) : Int) != (63 : Int)) ?_ (fun hcz => by rw [c21] at hcz; cases hcz) (fun hcz => ?_)
                  · kernel_rfl
                  refine TS.skip ?_
                  refine XS.then ?_
                  refine TS.seq ?_
                  have hq : (True) ∧ (True) := ⟨trivial, trivial⟩
                  refine TS.reg [] ?_ ?_
                  · apply prop_of ?_ hq
                    kernel_rfl
                  refine XS.then ?_
                  refine TS.ret ?_
                  obtain rfl : ((0 : Int), false) = r := Option.some.inj h
                  refine XS.wk (.ifc false 2 [] (some (60, (.int .i64)))) ?_
                  exact XS.fin [] ((True) ∧ (True)) (by kernel_rfl) ⟨trivial, trivial⟩
              · have hq : (True) ∧ ((inR (0 : Int) c.length) ∧ ((True) ∧ (((True) ∧ ((((c.getD 0 0).toNat : Nat) : Int) == (26 : Int)) = false) ∧ ((True) ∧ (True))))) := ⟨trivial, ⟨inb_ok t3, ⟨trivial, ⟨⟨trivial, c18⟩, ⟨trivial, trivial⟩⟩⟩⟩⟩
                refine TS.reg [.none, .none, .none, .dec false] ?_ ?_
                · apply prop_of ?_ hq
                  kernel_rfl
                refine XS.then ?_
                refine TS.no ?_ ?_
                · kernel_rfl
                refine TS.skip ?_
                refine XS.then ?_
                refine TS.seq ?_
                have hq : (True) ∧ (True) := ⟨trivial, trivial⟩
                refine TS.reg [] ?_ ?_
                · apply prop_of ?_ hq
                  kernel_rfl
                refine XS.then ?_
                refine TS.ret ?_
                obtain rfl : ((0 : Int), false) = r := Option.some.inj h
                refine XS.wk (.ifc false 2 [] (some (60, (.int .i64)))) ?_
                exact XS.fin [] ((True) ∧ (True)) (by kernel_rfl) ⟨trivial, trivial⟩
      · rcases bif_some h with ⟨c22, h⟩ | ⟨c23, h⟩
        · refine TS.cond (decide ((((c.getD 0 0).toNat : Nat) : Int) < (32 : Int))) ?_ (fun hcz => ?_) (fun hcz => by rw [c22] at hcz; cases hcz)
          · kernel_rfl
          have hq : (True) ∧ (True) := ⟨trivial, trivial⟩
          refine TS.reg [] ?_ ?_
          · apply prop_of ?_ hq
            kernel_rfl
          refine XS.reAny [0] (mkMask 52 [0, 3, 5]) (6 : Int) h ?_
          kernel_rfl
        · refine TS.cond (decide ((((c.getD 0 0).toNat : Nat) : Int) < (32 : Int))) ?_ (fun hcz => by rw [c23] at hcz; cases hcz) (fun hcz => ?_)
          · kernel_rfl
          refine TS.skip ?_
          refine XS.reAny [0] (mkMask 52 [0, 3, 5]) (10 : Int) h ?_
          kernel_rfl

/-! plugtree/scsi.first -/
def F54 (n : Nat) (s : List UInt8) (vn : Int) : Option (List UInt8) := (bif subB s.length none (some (if (IntKind.wrap .i64 (vn)) < ((s.length : Nat) : Int) then (IntKind.wrap .i64 (vn)) else ((s.length : Nat) : Int))) then (some (s.take (if (IntKind.wrap .i64 (vn)) < ((s.length : Nat) : Int) then (IntKind.wrap .i64 (vn)) else ((s.length : Nat) : Int)).toNat)) else none)
theorem F54_ok (n : Nat) (s : List UInt8) (vn : Int) (r : List UInt8) (h : F54 n s vn = some r) : PureC Try.prog 54 [(.str s), (.int .u8 vn)] (.str r) [] := by
  refine PureC.mkS Try.func54 rfl rfl ?_
  intro w0 fz0 hfz
  replace h : (bif subB s.length none (some (if (IntKind.wrap .i64 (vn)) < ((s.length : Nat) : Int) then (IntKind.wrap .i64 (vn)) else ((s.length : Nat) : Int))) then (some (s.take (if (IntKind.wrap .i64 (vn)) < ((s.length : Nat) : Int) then (IntKind.wrap .i64 (vn)) else ((s.length : Nat) : Int)).toNat)) else none) = some r := h
  refine TS.seq ?_
  have hq : (True) ∧ (True) := ⟨trivial, trivial⟩
  refine TS.reg [] ?_ ?_
  · apply prop_of ?_ hq
    kernel_rfl
  refine XS.then ?_
  refine TS.seq ?_
  obtain ⟨t1, h⟩ := test_some h
  have hq : (True) ∧ ((True) ∧ ((True) ∧ ((True) ∧ ((True) ∧ ((True) ∧ ((subC s.length none (some (if (IntKind.wrap .i64 (vn)) < ((s.length : Nat) : Int) then (IntKind.wrap .i64 (vn)) else ((s.length : Nat) : Int)))) ∧ ((True) ∧ (True)))))))) := ⟨trivial, ⟨trivial, ⟨trivial, ⟨trivial, ⟨trivial, ⟨trivial, ⟨subB_ok t1, ⟨trivial, trivial⟩⟩⟩⟩⟩⟩⟩⟩
  refine TS.reg [] ?_ ?_
  · apply prop_of ?_ hq
    kernel_rfl
  refine XS.then ?_
  refine TS.ret ?_
  obtain rfl : (s.take (if (IntKind.wrap .i64 (vn)) < ((s.length : Nat) : Int) then (IntKind.wrap .i64 (vn)) else ((s.length : Nat) : Int)).toNat) = r := Option.some.inj h
  exact XS.fin [] ((True) ∧ (True)) (by kernel_rfl) ⟨trivial, trivial⟩

/-! plugtree/scsi.long -/
def F55 (n : Nat) (vn : Int) : Option (List UInt8) := (some (strOf [(IntKind.wrap .u8 ((shrI .i64 vn (24 : Int)))), (IntKind.wrap .u8 ((shrI .i64 vn (16 : Int)))), (IntKind.wrap .u8 ((shrI .i64 vn (8 : Int)))), (IntKind.wrap .u8 (vn))]))
theorem F55_ok (n : Nat) (vn : Int) (r : List UInt8) (h : F55 n vn = some r) : PureC Try.prog 55 [(.int .i64 vn)] (.str r) [] := by
  refine PureC.mkS Try.func55 rfl rfl ?_
  intro w0 fz0 hfz
  replace h : (some (strOf [(IntKind.wrap .u8 ((shrI .i64 vn (24 : Int)))), (IntKind.wrap .u8 ((shrI .i64 vn (16 : Int)))), (IntKind.wrap .u8 ((shrI .i64 vn (8 : Int)))), (IntKind.wrap .u8 (vn))])) = some r := h
  refine TS.seq ?_
  have hq : (True) ∧ (True) := ⟨trivial, trivial⟩
  refine TS.reg [] ?_ ?_
  · apply prop_of ?_ hq
    kernel_rfl
  refine XS.then ?_
  refine TS.seq ?_
  have hq : (True) ∧ ((0 ≤ (24 : Int)) ∧ ((True) ∧ ((True) ∧ ((0 ≤ (16 : Int)) ∧ ((True) ∧ ((True) ∧ ((0 ≤ (8 : Int)) ∧ ((True) ∧ ((True) ∧ ((True) ∧ (((0 < 4 ∧ True) ∧ ((1 < 4 ∧ True) ∧ ((2 < 4 ∧ True) ∧ ((3 < 4 ∧ True) ∧ (True))))) ∧ ((True) ∧ ((True) ∧ (True)))))))))))))) := ⟨trivial, ⟨by decide, ⟨trivial, ⟨trivial, ⟨by decide, ⟨trivial, ⟨trivial, ⟨by decide, ⟨trivial, ⟨trivial, ⟨trivial, ⟨⟨⟨by decide, trivial⟩, ⟨⟨by decide, trivial⟩, ⟨⟨by decide, trivial⟩, ⟨⟨by decide, trivial⟩, trivial⟩⟩⟩⟩, ⟨trivial, ⟨trivial, trivial⟩⟩⟩⟩⟩⟩⟩⟩⟩⟩⟩⟩⟩⟩
  refine TS.reg [] ?_ ?_
  · apply prop_of ?_ hq
    kernel_rfl
  refine XS.then ?_
  refine TS.ret ?_
  obtain rfl : (strOf [(IntKind.wrap .u8 ((shrI .i64 vn (24 : Int)))), (IntKind.wrap .u8 ((shrI .i64 vn (16 : Int)))), (IntKind.wrap .u8 ((shrI .i64 vn (8 : Int)))), (IntKind.wrap .u8 (vn))]) = r := Option.some.inj h
  exact XS.fin [] ((True) ∧ (True)) (by kernel_rfl) ⟨trivial, trivial⟩

/-! strings.Join -/
def F26 (n : Nat) (elems : List (List UInt8)) (sep : List UInt8) : Option (List UInt8) := bif decide ((Lib.join elems sep).length ≤ 140737488355328 ∧ elems.length ≤ 140737488355328) then some (Lib.join elems sep) else none
theorem F26_ok (n : Nat) (elems : List (List UInt8)) (sep : List UInt8) (r : List UInt8) (h : F26 n elems sep = some r) : PureC Try.prog 26 [(.sl .str elems), (.str sep)] (.str r) [] := by
  unfold F26 at h
  obtain ⟨c, h⟩ := test_some h
  obtain rfl := Option.some.inj h
  exact PureC.join elems sep (of_decide_eq_true c) Try.strings_Join_none Try.strings_Join

/-! plugtree/scsi.Do -/
def F8_j26 (n : Nat) : ((List UInt8) × Int × Bool × (List (List UInt8))) → Option ((List (List UInt8)) × Int × (List UInt8) × Int)
  | (x, x_2, x_3, m0) => (bif x_3 then (some (m0, (bif x_3 then x_2 else (0 : Int)), ([] : List UInt8), (14 : Int))) else (some (m0, (0 : Int), x, (0 : Int))))
def F8_j27 (n : Nat) (d_Sense : Int) (command : List UInt8) (y_5 : List (List UInt8)) : Int → Option ((List (List UInt8)) × Int × (List UInt8) × Int)
  | e => (bif inb (4 : Int) command.length then ((F54 n (strOf [(112 : Int), (0 : Int), (IntKind.wrap .u8 (e)), (0 : Int), (0 : Int), (0 : Int), (0 : Int), (10 : Int), (0 : Int), (0 : Int), (0 : Int), (0 : Int), (IntKind.wrap .u8 (d_Sense)), (0 : Int), (0 : Int), (0 : Int), (0 : Int), (0 : Int)]) (((command.getD 4 0).toNat : Nat) : Int)).bind fun y_8 => (F8_j26 n (y_8, (0 : Int), false, y_5))) else none)
def F8_j31 (n : Nat) : ((List UInt8) × Int × Bool × (List (List UInt8))) → Option ((List (List UInt8)) × Int × (List UInt8) × Int)
  | (x_4, x_5, x_6, m1) => (F8_j26 n (x_4, x_5, x_6, m1))
def F8_j33 (n : Nat) : (List (List UInt8)) → Option ((List (List UInt8)) × Int × (List UInt8) × Int)
  | m3 => (F8_j31 n (([] : List UInt8), (0 : Int), false, m3))
def F8_l34 (n : Nat) (command : List UInt8) (data : List UInt8) (k8_34 : (Int × (List (List UInt8))) → Option ((List (List UInt8)) × Int × (List UInt8) × Int)) : (Int × (List (List UInt8))) → Option ((List (List UInt8)) × Int × (List UInt8) × Int)
  | (x_7, m3_2) => (bif (decide (x_7 < (bitsI .or .i64 (shlI .i64 (IntKind.wrap .i64 ((((command.getD 7 0).toNat : Nat) : Int))) (8 : Int)) (IntKind.wrap .i64 ((((command.getD 8 0).toNat : Nat) : Int)))))) then (bif subB data.length (some (IntKind.wrap .i64 (x_7 * (16 : Int)))) (some (IntKind.wrap .i64 ((IntKind.wrap .i64 (x_7 + (1 : Int))) * (16 : Int)))) then (bif inb (IntKind.wrap .i64 ((bitsI .or .i64 (bitsI .or .i64 (bitsI .or .i64 (shlI .i64 (IntKind.wrap .i64 ((((command.getD 2 0).toNat : Nat) : Int))) (24 : Int)) (shlI .i64 (IntKind.wrap .i64 ((((command.getD 3 0).toNat : Nat) : Int))) (16 : Int))) (shlI .i64 (IntKind.wrap .i64 ((((command.getD 4 0).toNat : Nat) : Int))) (8 : Int))) (IntKind.wrap .i64 ((((command.getD 5 0).toNat : Nat) : Int)))) + x_7)) m3_2.length then (k8_34 ((IntKind.wrap .i64 (x_7 + (1 : Int))), (m3_2.set ((IntKind.wrap .i64 ((bitsI .or .i64 (bitsI .or .i64 (bitsI .or .i64 (shlI .i64 (IntKind.wrap .i64 ((((command.getD 2 0).toNat : Nat) : Int))) (24 : Int)) (shlI .i64 (IntKind.wrap .i64 ((((command.getD 3 0).toNat : Nat) : Int))) (16 : Int))) (shlI .i64 (IntKind.wrap .i64 ((((command.getD 4 0).toNat : Nat) : Int))) (8 : Int))) (IntKind.wrap .i64 ((((command.getD 5 0).toNat : Nat) : Int)))) + x_7)).toNat) ((data.take (IntKind.wrap .i64 ((IntKind.wrap .i64 (x_7 + (1 : Int))) * (16 : Int))).toNat).drop (IntKind.wrap .i64 (x_7 * (16 : Int))).toNat)))) else none) else none) else (F8_j33 n m3_2))
def F8 (n : Nat) (d_Blocks : List (List UInt8)) (d_Sense : Int) (command : List UInt8) (data : List UInt8) : Option ((List (List UInt8)) × Int × (List UInt8) × Int) := ((F21 n d_Blocks).bind fun y_5 => ((F22 n y_5 d_Sense).bind fun y_6 => (bif (y_6 != (0 : Int)) then (some (y_5, d_Sense, ([] : List UInt8), y_6)) else ((F53 n command).bind fun y_7 => (bif y_7.2 then (F8_j26 n (([] : List UInt8), y_7.1, y_7.2, y_5)) else (bif inb (0 : Int) command.length then (bif ((((command.getD 0 0).toNat : Nat) : Int) == (0 : Int)) then (F8_j26 n (([] : List UInt8), (0 : Int), false, y_5)) else (bif ((((command.getD 0 0).toNat : Nat) : Int) == (3 : Int)) then (bif (d_Sense == (0 : Int)) then (F8_j27 n d_Sense command y_5 (0 : Int)) else (F8_j27 n d_Sense command y_5 (5 : Int))) else (bif ((((command.getD 0 0).toNat : Nat) : Int) == (18 : Int)) then ((F39 n ([32] : List UInt8) (12 : Int)).bind fun y_9 => (bif (decide (([0, 128, 4, 2, 31, 0, 0, 0, 112, 108, 117, 103, 116, 114, 101, 101, 100, 105, 115, 107] : List UInt8).length + y_9.length ≤ 9223372036854775807)) then (bif (decide ((([0, 128, 4, 2, 31, 0, 0, 0, 112, 108, 117, 103, 116, 114, 101, 101, 100, 105, 115, 107] : List UInt8) ++ y_9).length + ([49, 32, 32, 32] : List UInt8).length ≤ 9223372036854775807)) then (bif inb (4 : Int) command.length then ((F54 n ((([0, 128, 4, 2, 31, 0, 0, 0, 112, 108, 117, 103, 116, 114, 101, 101, 100, 105, 115, 107] : List UInt8) ++ y_9) ++ ([49, 32, 32, 32] : List UInt8)) (((command.getD 4 0).toNat : Nat) : Int)).bind fun y_10 => (F8_j26 n (y_10, (0 : Int), false, y_5))) else none) else none) else none)) else (bif ((((command.getD 0 0).toNat : Nat) : Int) == (26 : Int)) then (bif inb (4 : Int) command.length then ((F54 n ([3, 0, 0, 0] : List UInt8) (((command.getD 4 0).toNat : Nat) : Int)).bind fun y_11 => (F8_j26 n (y_11, (0 : Int), false, y_5))) else none) else (bif ((((command.getD 0 0).toNat : Nat) : Int) == (37 : Int)) then ((F55 n (IntKind.wrap .i64 (((y_5.length : Nat) : Int) - (1 : Int)))).bind fun y_12 => ((F55 n (16 : Int)).bind fun y_13 => (bif (decide (y_12.length + y_13.length ≤ 9223372036854775807)) then (F8_j26 n ((y_12 ++ y_13), (0 : Int), false, y_5)) else none))) else (bif inb (2 : Int) command.length then (bif inb (3 : Int) command.length then (bif inb (4 : Int) command.length then (bif inb (5 : Int) command.length then (bif inb (7 : Int) command.length then (bif inb (8 : Int) command.length then (bif (decide ((IntKind.wrap .i64 ((bitsI .or .i64 (bitsI .or .i64 (bitsI .or .i64 (shlI .i64 (IntKind.wrap .i64 ((((command.getD 2 0).toNat : Nat) : Int))) (24 : Int)) (shlI .i64 (IntKind.wrap .i64 ((((command.getD 3 0).toNat : Nat) : Int))) (16 : Int))) (shlI .i64 (IntKind.wrap .i64 ((((command.getD 4 0).toNat : Nat) : Int))) (8 : Int))) (IntKind.wrap .i64 ((((command.getD 5 0).toNat : Nat) : Int)))) + (bitsI .or .i64 (shlI .i64 (IntKind.wrap .i64 ((((command.getD 7 0).toNat : Nat) : Int))) (8 : Int)) (IntKind.wrap .i64 ((((command.getD 8 0).toNat : Nat) : Int)))))) > ((y_5.length : Nat) : Int))) then (F8_j31 n (([] : List UInt8), (33 : Int), true, y_5)) else (bif ((((command.getD 0 0).toNat : Nat) : Int) == (40 : Int)) then (bif subB y_5.length (some (bitsI .or .i64 (bitsI .or .i64 (bitsI .or .i64 (shlI .i64 (IntKind.wrap .i64 ((((command.getD 2 0).toNat : Nat) : Int))) (24 : Int)) (shlI .i64 (IntKind.wrap .i64 ((((command.getD 3 0).toNat : Nat) : Int))) (16 : Int))) (shlI .i64 (IntKind.wrap .i64 ((((command.getD 4 0).toNat : Nat) : Int))) (8 : Int))) (IntKind.wrap .i64 ((((command.getD 5 0).toNat : Nat) : Int))))) (some (IntKind.wrap .i64 ((bitsI .or .i64 (bitsI .or .i64 (bitsI .or .i64 (shlI .i64 (IntKind.wrap .i64 ((((command.getD 2 0).toNat : Nat) : Int))) (24 : Int)) (shlI .i64 (IntKind.wrap .i64 ((((command.getD 3 0).toNat : Nat) : Int))) (16 : Int))) (shlI .i64 (IntKind.wrap .i64 ((((command.getD 4 0).toNat : Nat) : Int))) (8 : Int))) (IntKind.wrap .i64 ((((command.getD 5 0).toNat : Nat) : Int)))) + (bitsI .or .i64 (shlI .i64 (IntKind.wrap .i64 ((((command.getD 7 0).toNat : Nat) : Int))) (8 : Int)) (IntKind.wrap .i64 ((((command.getD 8 0).toNat : Nat) : Int))))))) then ((F26 n ((y_5.take (IntKind.wrap .i64 ((bitsI .or .i64 (bitsI .or .i64 (bitsI .or .i64 (shlI .i64 (IntKind.wrap .i64 ((((command.getD 2 0).toNat : Nat) : Int))) (24 : Int)) (shlI .i64 (IntKind.wrap .i64 ((((command.getD 3 0).toNat : Nat) : Int))) (16 : Int))) (shlI .i64 (IntKind.wrap .i64 ((((command.getD 4 0).toNat : Nat) : Int))) (8 : Int))) (IntKind.wrap .i64 ((((command.getD 5 0).toNat : Nat) : Int)))) + (bitsI .or .i64 (shlI .i64 (IntKind.wrap .i64 ((((command.getD 7 0).toNat : Nat) : Int))) (8 : Int)) (IntKind.wrap .i64 ((((command.getD 8 0).toNat : Nat) : Int)))))).toNat).drop (bitsI .or .i64 (bitsI .or .i64 (bitsI .or .i64 (shlI .i64 (IntKind.wrap .i64 ((((command.getD 2 0).toNat : Nat) : Int))) (24 : Int)) (shlI .i64 (IntKind.wrap .i64 ((((command.getD 3 0).toNat : Nat) : Int))) (16 : Int))) (shlI .i64 (IntKind.wrap .i64 ((((command.getD 4 0).toNat : Nat) : Int))) (8 : Int))) (IntKind.wrap .i64 ((((command.getD 5 0).toNat : Nat) : Int)))).toNat) ([] : List UInt8)).bind fun y_14 => (F8_j31 n (y_14, (0 : Int), false, y_5))) else none) else (bif ((((command.getD 0 0).toNat : Nat) : Int) == (42 : Int)) then (bif (((data.length : Nat) : Int) != (IntKind.wrap .i64 ((bitsI .or .i64 (shlI .i64 (IntKind.wrap .i64 ((((command.getD 7 0).toNat : Nat) : Int))) (8 : Int)) (IntKind.wrap .i64 ((((command.getD 8 0).toNat : Nat) : Int)))) * (16 : Int)))) then (F8_j31 n (([] : List UInt8), (36 : Int), true, y_5)) else (loopF (F8_l34 n command data) n ((0 : Int), y_5))) else (F8_j33 n y_5)))) else none) else none) else none) else none) else none) else none)))))) else none))))))
theorem F8_ok (n : Nat) (d_Blocks : List (List UInt8)) (d_Sense : Int) (command : List UInt8) (data : List UInt8) (r : (List (List UInt8)) × Int × (List UInt8) × Int) (h : F8 n d_Blocks d_Sense command data = some r) : PureC Try.prog 8 [(.st (.cons (.sl .str d_Blocks) (.int .i64 d_Sense))), (.str command), (.str data)] (.tup (.cons (.st (.cons (.sl .str r.1) (.int .i64 r.2.1))) (.cons (.str r.2.2.1) (.cons (.int .i64 r.2.2.2) .nil)))) [] := by
  refine PureC.mkS Try.func8 rfl rfl ?_
  intro w0 fz0 hfz
  replace h : ((F21 n d_Blocks).bind fun y_5 => ((F22 n y_5 d_Sense).bind fun y_6 => (bif (y_6 != (0 : Int)) then (some (y_5, d_Sense, ([] : List UInt8), y_6)) else ((F53 n command).bind fun y_7 => (bif y_7.2 then (F8_j26 n (([] : List UInt8), y_7.1, y_7.2, y_5)) else (bif inb (0 : Int) command.length then (bif ((((command.getD 0 0).toNat : Nat) : Int) == (0 : Int)) then (F8_j26 n (([] : List UInt8), (0 : Int), false, y_5)) else (bif ((((command.getD 0 0).toNat : Nat) : Int) == (3 : Int)) then (bif (d_Sense == (0 : Int)) then (F8_j27 n d_Sense command y_5 (0 : Int)) else (F8_j27 n d_Sense command y_5 (5 : Int))) else (bif ((((command.getD 0 0).toNat : Nat) : Int) == (18 : Int)) then ((F39 n ([32] : List UInt8) (12 : Int)).bind fun y_9 => (bif (decide (([0, 128, 4, 2, 31, 0, 0, 0, 112, 108, 117, 103, 116, 114, 101, 101, 100, 105, 115, 107] : List UInt8).length + y_9.length ≤ 9223372036854775807)) then (bif (decide ((([0, 128, 4, 2, 31, 0, 0, 0, 112, 108, 117, 103, 116, 114, 101, 101, 100, 105, 115, 107] : List UInt8) ++ y_9).length + ([49, 32, 32, 32] : List UInt8).length ≤ 9223372036854775807)) then (bif inb (4 : Int) command.length then ((F54 n ((([0, 128, 4, 2, 31, 0, 0, 0, 112, 108, 117, 103, 116, 114, 101, 101, 100, 105, 115, 107] : List UInt8) ++ y_9) ++ ([49, 32, 32, 32] : List UInt8)) (((command.getD 4 0).toNat : Nat) : Int)).bind fun y_10 => (F8_j26 n (y_10, (0 : Int), false, y_5))) else none) else none) else none)) else (bif ((((command.getD 0 0).toNat : Nat) : Int) == (26 : Int)) then (bif inb (4 : Int) command.length then ((F54 n ([3, 0, 0, 0] : List UInt8) (((command.getD 4 0).toNat : Nat) : Int)).bind fun y_11 => (F8_j26 n (y_11, (0 : Int), false, y_5))) else none) else (bif ((((command.getD 0 0).toNat : Nat) : Int) == (37 : Int)) then ((F55 n (IntKind.wrap .i64 (((y_5.length : Nat) : Int) - (1 : Int)))).bind fun y_12 => ((F55 n (16 : Int)).bind fun y_13 => (bif (decide (y_12.length + y_13.length ≤ 9223372036854775807)) then (F8_j26 n ((y_12 ++ y_13), (0 : Int), false, y_5)) else none))) else (bif inb (2 : Int) command.length then (bif inb (3 : Int) command.length then (bif inb (4 : Int) command.length then (bif inb (5 : Int) command.length then (bif inb (7 : Int) command.length then (bif inb (8 : Int) command.length then (bif (decide ((IntKind.wrap .i64 ((bitsI .or .i64 (bitsI .or .i64 (bitsI .or .i64 (shlI .i64 (IntKind.wrap .i64 ((((command.getD 2 0).toNat : Nat) : Int))) (24 : Int)) (shlI .i64 (IntKind.wrap .i64 ((((command.getD 3 0).toNat : Nat) : Int))) (16 : Int))) (shlI .i64 (IntKind.wrap .i64 ((((command.getD 4 0).toNat : Nat) : Int))) (8 : Int))) (IntKind.wrap .i64 ((((command.getD 5 0).toNat : Nat) : Int)))) + (bitsI .or .i64 (shlI .i64 (IntKind.wrap .i64 ((((command.getD 7 0).toNat : Nat) : Int))) (8 : Int)) (IntKind.wrap .i64 ((((command.getD 8 0).toNat : Nat) : Int)))))) > ((y_5.length : Nat) : Int))) then (F8_j31 n (([] : List UInt8), (33 : Int), true, y_5)) else (bif ((((command.getD 0 0).toNat : Nat) : Int) == (40 : Int)) then (bif subB y_5.length (some (bitsI .or .i64 (bitsI .or .i64 (bitsI .or .i64 (shlI .i64 (IntKind.wrap .i64 ((((command.getD 2 0).toNat : Nat) : Int))) (24 : Int)) (shlI .i64 (IntKind.wrap .i64 ((((command.getD 3 0).toNat : Nat) : Int))) (16 : Int))) (shlI .i64 (IntKind.wrap .i64 ((((command.getD 4 0).toNat : Nat) : Int))) (8 : Int))) (IntKind.wrap .i64 ((((command.getD 5 0).toNat : Nat) : Int))))) (some (IntKind.wrap .i64 ((bitsI .or .i64 (bitsI .or .i64 (bitsI .or .i64 (shlI .i64 (IntKind.wrap .i64 ((((command.getD 2 0).toNat : Nat) : Int))) (24 : Int)) (shlI .i64 (IntKind.wrap .i64 ((((command.getD 3 0).toNat : Nat) : Int))) (16 : Int))) (shlI .i64 (IntKind.wrap .i64 ((((command.getD 4 0).toNat : Nat) : Int))) (8 : Int))) (IntKind.wrap .i64 ((((command.getD 5 0).toNat : Nat) : Int)))) + (bitsI .or .i64 (shlI .i64 (IntKind.wrap .i64 ((((command.getD 7 0).toNat : Nat) : Int))) (8 : Int)) (IntKind.wrap .i64 ((((command.getD 8 0).toNat : Nat) : Int))))))) then ((F26 n ((y_5.take (IntKind.wrap .i64 ((bitsI .or .i64 (bitsI .or .i64 (bitsI .or .i64 (shlI .i64 (IntKind.wrap .i64 ((((command.getD 2 0).toNat : Nat) : Int))) (24 : Int)) (shlI .i64 (IntKind.wrap .i64 ((((command.getD 3 0).toNat : Nat) : Int))) (16 : Int))) (shlI .i64 (IntKind.wrap .i64 ((((command.getD 4 0).toNat : Nat) : Int))) (8 : Int))) (IntKind.wrap .i64 ((((command.getD 5 0).toNat : Nat) : Int)))) + (bitsI .or .i64 (shlI .i64 (IntKind.wrap .i64 ((((command.getD 7 0).toNat : Nat) : Int))) (8 : Int)) (IntKind.wrap .i64 ((((command.getD 8 0).toNat : Nat) : Int)))))).toNat).drop (bitsI .or .i64 (bitsI .or .i64 (bitsI .or .i64 (shlI .i64 (IntKind.wrap .i64 ((((command.getD 2 0).toNat : Nat) : Int))) (24 : Int)) (shlI .i64 (IntKind.wrap .i64 ((((command.getD 3 0).toNat : Nat) : Int))) (16 : Int))) (shlI .i64 (IntKind.wrap .i64 ((((command.getD 4 0).toNat : Nat) : Int))) (8 : Int))) (IntKind.wrap .i64 ((((command.getD 5 0).toNat : Nat) : Int)))).toNat) ([] : List UInt8)).bind fun y_14 => (F8_j31 n (y_14, (0 : Int), false, y_5))) else none) else (bif ((((command.getD 0 0).toNat : Nat) : Int) == (42 : Int)) then (bif (((data.length : Nat) : Int) != (IntKind.wrap .i64 ((bitsI .or .i64 (shlI .i64 (IntKind.wrap .i64 ((((command.getD 7 0).toNat : Nat) : Int))) (8 : Int)) (IntKind.wrap .i64 ((((command.getD 8 0).toNat : Nat) : Int)))) * (16 : Int)))) then (F8_j31 n (([] : List UInt8), (36 : Int), true, y_5)) else (loopF (F8_l34 n command data) n ((0 : Int), y_5))) else (F8_j33 n y_5)))) else none) else none) else none) else none) else none) else none)))))) else none)))))) = some r := h
  refine TS.seq ?_
  have hq : (True) ∧ ((True) ∧ ((True) ∧ ((True) ∧ (True)))) := ⟨trivial, ⟨trivial, ⟨trivial, ⟨trivial, trivial⟩⟩⟩⟩
  refine TS.reg [] ?_ ?_
  · apply prop_of ?_ hq
    kernel_rfl
  refine XS.then ?_
  refine TS.seq ?_
  obtain ⟨y_5, hx1, h⟩ := bind_some' h
  have hq : (True) ∧ ((True) ∧ ((PureC Try.prog 21 [(.sl .str d_Blocks)] (.row 0) [(.row 9 .str y_5)]) ∧ ((True) ∧ ((True) ∧ (True))))) := ⟨trivial, ⟨trivial, ⟨F21_ok n d_Blocks y_5 hx1, ⟨trivial, ⟨trivial, trivial⟩⟩⟩⟩⟩
  refine TS.reg [.none, .none, (.call (.row 0) [(.row 9 .str y_5)])] ?_ ?_
  · apply prop_of ?_ hq
    kernel_rfl
  refine XS.then ?_
  refine TS.seq ?_
  refine TS.seq ?_
  obtain ⟨y_6, hx2, h⟩ := bind_some' h
  have hq : (True) ∧ (((((True) ∧ (True)) ∧ (True)) ∧ PureC Try.prog 22 [(.st (.cons (.sl .str y_5) (.int .i64 d_Sense)))] (.int .i64 y_6) []) ∧ ((True) ∧ (True))) := ⟨trivial, ⟨⟨⟨⟨trivial, trivial⟩, trivial⟩, F22_ok n y_5 d_Sense y_6 hx2⟩, ⟨trivial, trivial⟩⟩⟩
  refine TS.reg [.none, (.call (.int .i64 y_6) [])] ?_ ?_
  · apply prop_of ?_ hq
    kernel_rfl
  refine XS.then ?_
  refine TS.seq ?_
  have hq : (True) ∧ ((True) ∧ (True)) := ⟨trivial, ⟨trivial, trivial⟩⟩
  refine TS.reg [] ?_ ?_
  · apply prop_of ?_ hq
    kernel_rfl
  refine XS.then ?_
  rcases bif_some h with ⟨c3, h⟩ | ⟨c4, h⟩
  · refine TS.cond (y_6 != (0 : Int)) ?_ (fun hcz => ?_) (fun hcz => by rw [c3] at hcz; cases hcz)
    · kernel_rfl
    refine TS.seq ?_
    have hq : (True) ∧ ((True) ∧ ((True) ∧ ((True) ∧ ((True) ∧ (True))))) := ⟨trivial, ⟨trivial, ⟨trivial, ⟨trivial, ⟨trivial, trivial⟩⟩⟩⟩⟩
    refine TS.reg [] ?_ ?_
    · apply prop_of ?_ hq
      kernel_rfl
    refine XS.then ?_
    refine TS.ret ?_
    refine XS.passR ?_
    obtain rfl : (y_5, d_Sense, ([] : List UInt8), y_6) = r := Option.some.inj h
    refine XS.wk (.frz 2) ?_
    exact XS.fin [] ((True) ∧ ((True) ∧ ((True) ∧ (True)))) (by kernel_rfl) ⟨trivial, ⟨trivial, ⟨trivial, trivial⟩⟩⟩
  · refine TS.cond (y_6 != (0 : Int)) ?_ (fun hcz => by rw [c4] at hcz; cases hcz) (fun hcz => ?_)
    · kernel_rfl
    refine TS.skip ?_
    refine XS.then ?_
    refine TS.seq ?_
    refine TS.opsOf ?_
    have hq : (True) ∧ ((True) ∧ (True)) := ⟨trivial, ⟨trivial, trivial⟩⟩
    refine TOS.run 2 [] (by kernel_rfl) ?_ ?_
    · apply prop_of ?_ hq
      kernel_rfl
    refine TOS.callJ (D := (List UInt8) × Int × Bool × (List (List UInt8))) (fun d => match d with | (x, x_2, x_3, m0) => (mkTs 42 [(3, (.ptr 0 [])), (6, (.ptr 1 [])), (27, (.tup (.cons (.str x) (.cons (.ifc 60 (.int .i64) x_2 x_3) .nil))))], [(.box 24 (.st (.cons (.sl .str m0) (.int .i64 d_Sense)))), (.box 24 (.st (.cons .nilS (.int .i64 (0 : Int)))))])) (fun d => F8_j26 n d = some r) 23 (mkMask 42 [3, 6]) Try.func23 rfl ?_ ?_
    · rintro ⟨x, x_2, x_3, m0⟩ h
      replace h : (bif x_3 then (some (m0, (bif x_3 then x_2 else (0 : Int)), ([] : List UInt8), (14 : Int))) else (some (m0, (0 : Int), x, (0 : Int)))) = some r := h
      have hq : (True) ∧ ((True) ∧ ((True) ∧ ((True) ∧ ((True) ∧ (True))))) := ⟨trivial, ⟨trivial, ⟨trivial, ⟨trivial, ⟨trivial, trivial⟩⟩⟩⟩⟩
      refine TOS.run 5 [] (by kernel_rfl) ?_ ?_
      · apply prop_of ?_ hq
        kernel_rfl
      refine TOS.nil (by kernel_rfl) ?_
      refine XS.then ?_
      refine TS.seq ?_
      refine TS.seq ?_
      have hq : (True) ∧ ((True) ∧ ((True) ∧ ((True) ∧ ((True) ∧ ((True) ∧ ((True) ∧ (True))))))) := ⟨trivial, ⟨trivial, ⟨trivial, ⟨trivial, ⟨trivial, ⟨trivial, ⟨trivial, trivial⟩⟩⟩⟩⟩⟩⟩
      refine TS.reg [] ?_ ?_
      · apply prop_of ?_ hq
        kernel_rfl
      refine XS.then ?_
      refine TS.seq ?_
      have hq : (True) ∧ (True) := ⟨trivial, trivial⟩
      refine TS.reg [] ?_ ?_
      · apply prop_of ?_ hq
        kernel_rfl
      refine XS.then ?_
      rcases bif_some h with ⟨c5, h⟩ | ⟨c6, h⟩
      · refine TS.cond x_3 ?_ (fun hcz => ?_) (fun hcz => by rw [c5] at hcz; cases hcz)
        · kernel_rfl
        refine TS.seq ?_
        have hq : (True) ∧ ((True) ∧ ((True) ∧ (True))) := ⟨trivial, ⟨trivial, ⟨trivial, trivial⟩⟩⟩
        refine TS.reg [] ?_ ?_
        · apply prop_of ?_ hq
          kernel_rfl
        refine XS.then ?_
        refine TS.seq ?_
        have hq : (True) ∧ ((True) ∧ ((True) ∧ ((True) ∧ (True)))) := ⟨trivial, ⟨trivial, ⟨trivial, ⟨trivial, trivial⟩⟩⟩⟩
        refine TS.reg [] ?_ ?_
        · apply prop_of ?_ hq
          kernel_rfl
        refine XS.then ?_
        refine TS.ret ?_
        refine XS.passR ?_
        obtain rfl : (m0, (bif x_3 then x_2 else (0 : Int)), ([] : List UInt8), (14 : Int)) = r := Option.some.inj h
        exact XS.fin [] ((True) ∧ ((True) ∧ ((True) ∧ (True)))) (by kernel_rfl) ⟨trivial, ⟨trivial, ⟨trivial, trivial⟩⟩⟩
      · refine TS.cond x_3 ?_ (fun hcz => by rw [c6] at hcz; cases hcz) (fun hcz => ?_)
        · kernel_rfl
        refine TS.skip ?_
        refine XS.then ?_
        refine TS.seq ?_
        have hq : (True) ∧ ((True) ∧ (True)) := ⟨trivial, ⟨trivial, trivial⟩⟩
        refine TS.reg [] ?_ ?_
        · apply prop_of ?_ hq
          kernel_rfl
        refine XS.then ?_
        refine TS.seq ?_
        have hq : (True) ∧ ((True) ∧ ((True) ∧ ((True) ∧ ((True) ∧ (True))))) := ⟨trivial, ⟨trivial, ⟨trivial, ⟨trivial, ⟨trivial, trivial⟩⟩⟩⟩⟩
        refine TS.reg [] ?_ ?_
        · apply prop_of ?_ hq
          kernel_rfl
        refine XS.then ?_
        refine TS.ret ?_
        obtain rfl : (m0, (0 : Int), x, (0 : Int)) = r := Option.some.inj h
        exact XS.fin [] ((True) ∧ ((True) ∧ ((True) ∧ (True)))) (by kernel_rfl) ⟨trivial, ⟨trivial, ⟨trivial, trivial⟩⟩⟩
    · intro fv4
      refine ⟨(mkTs 72 [(0, (.ptr 0 [])), (1, (.str command)), (2, (.str data))], [(.box 24 (.st (.cons (.row 2) (.int .i64 d_Sense)))), (.box 24 (.st (.cons .nilS (.int .i64 (0 : Int))))), (.row 9 .str y_5), (.sav (mkTs 42 [(3, (.ptr 0 [])), (6, (.ptr 1 []))]) fv4)]), by kernel_rfl, ?_⟩
      refine TS.seq ?_
      have hq : (True) ∧ ((True) ∧ (True)) := ⟨trivial, ⟨trivial, trivial⟩⟩
      refine TS.reg [] ?_ ?_
      · apply prop_of ?_ hq
        kernel_rfl
      refine XS.then ?_
      refine TS.seq ?_
      refine TS.seq ?_
      obtain ⟨y_7, hx7, h⟩ := bind_some' h
      have hq : (True) ∧ ((PureC Try.prog 53 [(.str command)] (.ifc 60 (.int .i64) y_7.1 y_7.2) []) ∧ ((True) ∧ (True))) := ⟨trivial, ⟨F53_ok n command y_7 hx7, ⟨trivial, trivial⟩⟩⟩
      refine TS.reg [.none, (.call (.ifc 60 (.int .i64) y_7.1 y_7.2) [])] ?_ ?_
      · apply prop_of ?_ hq
        kernel_rfl
      refine XS.then ?_
      refine TS.seq ?_
      have hq : (True) ∧ ((True) ∧ (True)) := ⟨trivial, ⟨trivial, trivial⟩⟩
      refine TS.reg [] ?_ ?_
      · apply prop_of ?_ hq
        kernel_rfl
      refine XS.then ?_
      rcases bif_some h with ⟨c8, h⟩ | ⟨c9, h⟩
      · refine TS.cond y_7.2 ?_ (fun hcz => ?_) (fun hcz => by rw [c8] at hcz; cases hcz)
        · kernel_rfl
        refine TS.seq ?_
        have hq : (True) ∧ ((True) ∧ ((True) ∧ (True))) := ⟨trivial, ⟨trivial, ⟨trivial, trivial⟩⟩⟩
        refine TS.reg [] ?_ ?_
        · apply prop_of ?_ hq
          kernel_rfl
        refine XS.then ?_
        refine TS.ret ?_
        refine XS.passR ?_
        refine XS.backR 3 (mkTs 42 [(3, (.ptr 0 [])), (6, (.ptr 1 []))]) (mkTs 42 [(3, (.ptr 0 [])), (6, (.ptr 1 [])), (27, (.tup (.cons (.str ([] : List UInt8)) (.cons (.ifc 60 (.int .i64) y_7.1 y_7.2) .nil))))], [(.box 24 (.st (.cons (.row 2) (.int .i64 d_Sense)))), (.box 24 (.st (.cons .nilS (.int .i64 (0 : Int))))), (.row 9 .str y_5), .dead]) ((True) ∧ ((True) ∧ (True))) (by kernel_rfl) (by kernel_rfl) ⟨trivial, ⟨trivial, trivial⟩⟩ ?_
        refine KS.ofX ?_
        refine XS.wk (.frz 2) ?_
        refine XS.reAny [0, 1] (mkMask 42 [3, 6, 27]) (([] : List UInt8), y_7.1, y_7.2, y_5) h ?_
        kernel_rfl
      · refine TS.cond y_7.2 ?_ (fun hcz => by rw [c9] at hcz; cases hcz) (fun hcz => ?_)
        · kernel_rfl
        refine TS.skip ?_
        refine XS.then ?_
        refine TS.seq ?_
        refine TS.seq ?_
        obtain ⟨t10, h⟩ := test_some h
        have hq : (True) ∧ ((inR (0 : Int) command.length) ∧ (True)) := ⟨trivial, ⟨inb_ok t10, trivial⟩⟩
        refine TS.reg [] ?_ ?_
        · apply prop_of ?_ hq
          kernel_rfl
        refine XS.then ?_
        refine TS.block ?_
        refine TS.seq ?_
        have hq : (True) ∧ ((True) ∧ (True)) := ⟨trivial, ⟨trivial, trivial⟩⟩
        refine TS.reg [] ?_ ?_
        · apply prop_of ?_ hq
          kernel_rfl
        refine XS.then ?_
        rcases bif_some h with ⟨c11, h⟩ | ⟨c12, h⟩
        · refine TS.cond ((((command.getD 0 0).toNat : Nat) : Int) == (0 : Int)) ?_ (fun hcz => ?_) (fun hcz => by rw [c11] at hcz; cases hcz)
          · kernel_rfl
          refine TS.seq ?_
          have hq : (True) ∧ ((True) ∧ (True)) := ⟨trivial, ⟨trivial, trivial⟩⟩
          refine TS.reg [] ?_ ?_
          · apply prop_of ?_ hq
            kernel_rfl
          refine XS.then ?_
          refine TS.ret ?_
          refine XS.blockRet ?_
          refine XS.passR ?_
          refine XS.backR 3 (mkTs 42 [(3, (.ptr 0 [])), (6, (.ptr 1 []))]) (mkTs 42 [(3, (.ptr 0 [])), (6, (.ptr 1 [])), (27, (.tup (.cons (.str ([] : List UInt8)) (.cons (.opq false) .nil))))], [(.box 24 (.st (.cons (.row 2) (.int .i64 d_Sense)))), (.box 24 (.st (.cons .nilS (.int .i64 (0 : Int))))), (.row 9 .str y_5), .dead]) ((True) ∧ ((True) ∧ (True))) (by kernel_rfl) (by kernel_rfl) ⟨trivial, ⟨trivial, trivial⟩⟩ ?_
          refine KS.ofX ?_
          refine XS.wk (.ifc false 27 [true, false] (some (60, (.int .i64)))) ?_
          refine XS.wk (.frz 2) ?_
          refine XS.reAny [0, 1] (mkMask 42 [3, 6, 27]) (([] : List UInt8), (0 : Int), false, y_5) h ?_
          kernel_rfl
        · refine TS.cond ((((command.getD 0 0).toNat : Nat) : Int) == (0 : Int)) ?_ (fun hcz => by rw [c12] at hcz; cases hcz) (fun hcz => ?_)
          · kernel_rfl
          refine TS.seq ?_
          have hq : (True) ∧ ((True) ∧ (True)) := ⟨trivial, ⟨trivial, trivial⟩⟩
          refine TS.reg [] ?_ ?_
          · apply prop_of ?_ hq
            kernel_rfl
          refine XS.then ?_
          rcases bif_some h with ⟨c13, h⟩ | ⟨c14, h⟩
          · refine TS.cond ((((command.getD 0 0).toNat : Nat) : Int) == (3 : Int)) ?_ (fun hcz => ?_) (fun hcz => by rw [c13] at hcz; cases hcz)
            · kernel_rfl
            refine TS.seq ?_
            have hq : (True) ∧ (True) := ⟨trivial, trivial⟩
            refine TS.reg [] ?_ ?_
            · apply prop_of ?_ hq
              kernel_rfl
            refine XS.then ?_
            refine TS.seq ?_
            refine TS.seq ?_
            have hq : (True) ∧ ((True) ∧ ((True) ∧ ((True) ∧ ((True) ∧ (True))))) := ⟨trivial, ⟨trivial, ⟨trivial, ⟨trivial, ⟨trivial, trivial⟩⟩⟩⟩⟩
            refine TS.reg [] ?_ ?_
            · apply prop_of ?_ hq
              kernel_rfl
            refine XS.then ?_
            refine TS.cut (D := Int) (fun d => match d with | e => (mkTs 72 [(0, (.ptr 1 [])), (1, (.str command)), (9, (.int .i64 e))], [(.sav (mkTs 42 [(3, (.ptr 1 [])), (6, (.ptr 3 []))]) fv4), (.box 24 (.st (.cons (.row 2) (.int .i64 d_Sense)))), (.row 9 .str y_5), (.box 24 (.st (.cons .nilS (.int .i64 (0 : Int)))))])) (fun d => F8_j27 n d_Sense command y_5 d = some r) ?_ ?_
            · rintro e h
              replace h : (bif inb (4 : Int) command.length then ((F54 n (strOf [(112 : Int), (0 : Int), (IntKind.wrap .u8 (e)), (0 : Int), (0 : Int), (0 : Int), (0 : Int), (10 : Int), (0 : Int), (0 : Int), (0 : Int), (0 : Int), (IntKind.wrap .u8 (d_Sense)), (0 : Int), (0 : Int), (0 : Int), (0 : Int), (0 : Int)]) (((command.getD 4 0).toNat : Nat) : Int)).bind fun y_8 => (F8_j26 n (y_8, (0 : Int), false, y_5))) else none) = some r := h
              refine XS.then ?_
              refine TS.seq ?_
              have hq : (True) ∧ ((True) ∧ ((True) ∧ ((True) ∧ ((True) ∧ ((True) ∧ ((True) ∧ (((0 < 18 ∧ True) ∧ ((1 < 18 ∧ True) ∧ ((2 < 18 ∧ True) ∧ ((3 < 18 ∧ True) ∧ ((4 < 18 ∧ True) ∧ ((5 < 18 ∧ True) ∧ ((6 < 18 ∧ True) ∧ ((7 < 18 ∧ True) ∧ ((8 < 18 ∧ True) ∧ ((9 < 18 ∧ True) ∧ ((10 < 18 ∧ True) ∧ ((11 < 18 ∧ True) ∧ ((12 < 18 ∧ True) ∧ ((13 < 18 ∧ True) ∧ ((14 < 18 ∧ True) ∧ ((15 < 18 ∧ True) ∧ ((16 < 18 ∧ True) ∧ ((17 < 18 ∧ True) ∧ (True))))))))))))))))))) ∧ ((True) ∧ (True))))))))) := ⟨trivial, ⟨trivial, ⟨trivial, ⟨trivial, ⟨trivial, ⟨trivial, ⟨trivial, ⟨⟨⟨by decide, trivial⟩, ⟨⟨by decide, trivial⟩, ⟨⟨by decide, trivial⟩, ⟨⟨by decide, trivial⟩, ⟨⟨by decide, trivial⟩, ⟨⟨by decide, trivial⟩, ⟨⟨by decide, trivial⟩, ⟨⟨by decide, trivial⟩, ⟨⟨by decide, trivial⟩, ⟨⟨by decide, trivial⟩, ⟨⟨by decide, trivial⟩, ⟨⟨by decide, trivial⟩, ⟨⟨by decide, trivial⟩, ⟨⟨by decide, trivial⟩, ⟨⟨by decide, trivial⟩, ⟨⟨by decide, trivial⟩, ⟨⟨by decide, trivial⟩, ⟨⟨by decide, trivial⟩, trivial⟩⟩⟩⟩⟩⟩⟩⟩⟩⟩⟩⟩⟩⟩⟩⟩⟩⟩, ⟨trivial, trivial⟩⟩⟩⟩⟩⟩⟩⟩⟩
              refine TS.reg [] ?_ ?_
              · apply prop_of ?_ hq
                kernel_rfl
              refine XS.then ?_
              refine TS.seq ?_
              obtain ⟨t15, h⟩ := test_some h
              obtain ⟨y_8, hx16, h⟩ := bind_some' h
              have hq : ((True) ∧ ((True) ∧ ((True) ∧ ((inR (4 : Int) command.length) ∧ ((PureC Try.prog 54 [(.str (strOf [(112 : Int), (0 : Int), (IntKind.wrap .u8 (e)), (0 : Int), (0 : Int), (0 : Int), (0 : Int), (10 : Int), (0 : Int), (0 : Int), (0 : Int), (0 : Int), (IntKind.wrap .u8 (d_Sense)), (0 : Int), (0 : Int), (0 : Int), (0 : Int), (0 : Int)])), (.int .u8 (((command.getD 4 0).toNat : Nat) : Int))] (.str y_8) []) ∧ (True)))))) ∧ ((True) ∧ ((True) ∧ (True))) := ⟨⟨trivial, ⟨trivial, ⟨trivial, ⟨inb_ok t15, ⟨F54_ok n (strOf [(112 : Int), (0 : Int), (IntKind.wrap .u8 (e)), (0 : Int), (0 : Int), (0 : Int), (0 : Int), (10 : Int), (0 : Int), (0 : Int), (0 : Int), (0 : Int), (IntKind.wrap .u8 (d_Sense)), (0 : Int), (0 : Int), (0 : Int), (0 : Int), (0 : Int)]) (((command.getD 4 0).toNat : Nat) : Int) y_8 hx16, trivial⟩⟩⟩⟩⟩, ⟨trivial, ⟨trivial, trivial⟩⟩⟩
              refine TS.draw 5 [] [.none, .none, .none, .none, (.call (.str y_8) [])] (by kernel_rfl) ?_ ?_
              · apply prop_of ?_ hq
                kernel_rfl
              refine XS.then ?_
              refine TS.ret ?_
              refine XS.blockRet ?_
              refine XS.passR ?_
              refine XS.backR 0 (mkTs 42 [(3, (.ptr 1 [])), (6, (.ptr 3 []))]) (mkTs 42 [(3, (.ptr 1 [])), (6, (.ptr 3 [])), (27, (.tup (.cons (.str y_8) (.cons (.opq false) .nil))))], [.dead, (.box 24 (.st (.cons (.row 2) (.int .i64 d_Sense)))), (.row 9 .str y_5), (.box 24 (.st (.cons .nilS (.int .i64 (0 : Int))))), (.row 5 (.int .u8) [(112 : Int), (0 : Int), (IntKind.wrap .u8 (e)), (0 : Int), (0 : Int), (0 : Int), (0 : Int), (10 : Int), (0 : Int), (0 : Int), (0 : Int), (0 : Int), (IntKind.wrap .u8 (d_Sense)), (0 : Int), (0 : Int), (0 : Int), (0 : Int), (0 : Int)])]) ((True) ∧ ((True) ∧ (True))) (by kernel_rfl) (by kernel_rfl) ⟨trivial, ⟨trivial, trivial⟩⟩ ?_
              refine KS.ofX ?_
              refine XS.wk (.ifc false 27 [true, false] (some (60, (.int .i64)))) ?_
              refine XS.wk (.frz 2) ?_
              refine XS.reAny [1, 3] (mkMask 42 [3, 6, 27]) (y_8, (0 : Int), false, y_5) h ?_
              kernel_rfl
            · rcases bif_some h with ⟨c17, h⟩ | ⟨c18, h⟩
              · refine TS.cond (d_Sense == (0 : Int)) ?_ (fun hcz => ?_) (fun hcz => by rw [c17] at hcz; cases hcz)
                · kernel_rfl
                have hq : (True) ∧ (True) := ⟨trivial, trivial⟩
                refine TS.reg [] ?_ ?_
                · apply prop_of ?_ hq
                  kernel_rfl
                refine XS.reAny [3, 0, 2, 1] (mkMask 72 [0, 1, 9]) (0 : Int) h ?_
                kernel_rfl
              · refine TS.cond (d_Sense == (0 : Int)) ?_ (fun hcz => by rw [c18] at hcz; cases hcz) (fun hcz => ?_)
                · kernel_rfl
                refine TS.skip ?_
                refine XS.reAny [3, 0, 2, 1] (mkMask 72 [0, 1, 9]) (5 : Int) h ?_
                kernel_rfl
          · refine TS.cond ((((command.getD 0 0).toNat : Nat) : Int) == (3 : Int)) ?_ (fun hcz => by rw [c14] at hcz; cases hcz) (fun hcz => ?_)
            · kernel_rfl
            refine TS.seq ?_
            have hq : (True) ∧ ((True) ∧ (True)) := ⟨trivial, ⟨trivial, trivial⟩⟩
            refine TS.reg [] ?_ ?_
            · apply prop_of ?_ hq
              kernel_rfl
            refine XS.then ?_
            rcases bif_some h with ⟨c19, h⟩ | ⟨c20, h⟩
            · refine TS.cond ((((command.getD 0 0).toNat : Nat) : Int) == (18 : Int)) ?_ (fun hcz => ?_) (fun hcz => by rw [c19] at hcz; cases hcz)
              · kernel_rfl
              refine TS.seq ?_
              obtain ⟨y_9, hx21, h⟩ := bind_some' h
              obtain ⟨t22, h⟩ := test_some h
              obtain ⟨t23, h⟩ := test_some h
              have hq : (PureC Try.prog 39 [(.str ([32] : List UInt8)), (.int .i64 (12 : Int))] (.str y_9) []) ∧ ((([0, 128, 4, 2, 31, 0, 0, 0, 112, 108, 117, 103, 116, 114, 101, 101, 100, 105, 115, 107] : List UInt8).length + y_9.length ≤ 9223372036854775807) ∧ (((([0, 128, 4, 2, 31, 0, 0, 0, 112, 108, 117, 103, 116, 114, 101, 101, 100, 105, 115, 107] : List UInt8) ++ y_9).length + ([49, 32, 32, 32] : List UInt8).length ≤ 9223372036854775807) ∧ ((True) ∧ (True)))) := ⟨F39_ok n ([32] : List UInt8) (12 : Int) y_9 hx21, ⟨of_decide_eq_true t22, ⟨of_decide_eq_true t23, ⟨trivial, trivial⟩⟩⟩⟩
              refine TS.reg [(.call (.str y_9) [])] ?_ ?_
              · apply prop_of ?_ hq
                kernel_rfl
              refine XS.then ?_
              refine TS.seq ?_
              obtain ⟨t24, h⟩ := test_some h
              obtain ⟨y_10, hx25, h⟩ := bind_some' h
              have hq : (True) ∧ ((True) ∧ ((inR (4 : Int) command.length) ∧ ((PureC Try.prog 54 [(.str ((([0, 128, 4, 2, 31, 0, 0, 0, 112, 108, 117, 103, 116, 114, 101, 101, 100, 105, 115, 107] : List UInt8) ++ y_9) ++ ([49, 32, 32, 32] : List UInt8))), (.int .u8 (((command.getD 4 0).toNat : Nat) : Int))] (.str y_10) []) ∧ ((True) ∧ ((True) ∧ (True)))))) := ⟨trivial, ⟨trivial, ⟨inb_ok t24, ⟨F54_ok n ((([0, 128, 4, 2, 31, 0, 0, 0, 112, 108, 117, 103, 116, 114, 101, 101, 100, 105, 115, 107] : List UInt8) ++ y_9) ++ ([49, 32, 32, 32] : List UInt8)) (((command.getD 4 0).toNat : Nat) : Int) y_10 hx25, ⟨trivial, ⟨trivial, trivial⟩⟩⟩⟩⟩⟩
              refine TS.reg [.none, .none, .none, (.call (.str y_10) [])] ?_ ?_
              · apply prop_of ?_ hq
                kernel_rfl
              refine XS.then ?_
              refine TS.ret ?_
              refine XS.blockRet ?_
              refine XS.passR ?_
              refine XS.backR 3 (mkTs 42 [(3, (.ptr 0 [])), (6, (.ptr 1 []))]) (mkTs 42 [(3, (.ptr 0 [])), (6, (.ptr 1 [])), (27, (.tup (.cons (.str y_10) (.cons (.opq false) .nil))))], [(.box 24 (.st (.cons (.row 2) (.int .i64 d_Sense)))), (.box 24 (.st (.cons .nilS (.int .i64 (0 : Int))))), (.row 9 .str y_5), .dead]) ((True) ∧ ((True) ∧ (True))) (by kernel_rfl) (by kernel_rfl) ⟨trivial, ⟨trivial, trivial⟩⟩ ?_
              refine KS.ofX ?_
              refine XS.wk (.ifc false 27 [true, false] (some (60, (.int .i64)))) ?_
              refine XS.wk (.frz 2) ?_
              refine XS.reAny [0, 1] (mkMask 42 [3, 6, 27]) (y_10, (0 : Int), false, y_5) h ?_
              kernel_rfl
            · refine TS.cond ((((command.getD 0 0).toNat : Nat) : Int) == (18 : Int)) ?_ (fun hcz => by rw [c20] at hcz; cases hcz) (fun hcz => ?_)
              · kernel_rfl
              refine TS.seq ?_
              have hq : (True) ∧ ((True) ∧ (True)) := ⟨trivial, ⟨trivial, trivial⟩⟩
              refine TS.reg [] ?_ ?_
              · apply prop_of ?_ hq
                kernel_rfl
              refine XS.then ?_
              rcases bif_some h with ⟨c26, h⟩ | ⟨c27, h⟩
              · refine TS.cond ((((command.getD 0 0).toNat : Nat) : Int) == (26 : Int)) ?_ (fun hcz => ?_) (fun hcz => by rw [c26] at hcz; cases hcz)
                · kernel_rfl
                refine TS.seq ?_
                obtain ⟨t28, h⟩ := test_some h
                obtain ⟨y_11, hx29, h⟩ := bind_some' h
                have hq : (True) ∧ ((inR (4 : Int) command.length) ∧ ((PureC Try.prog 54 [(.str ([3, 0, 0, 0] : List UInt8)), (.int .u8 (((command.getD 4 0).toNat : Nat) : Int))] (.str y_11) []) ∧ ((True) ∧ ((True) ∧ (True))))) := ⟨trivial, ⟨inb_ok t28, ⟨F54_ok n ([3, 0, 0, 0] : List UInt8) (((command.getD 4 0).toNat : Nat) : Int) y_11 hx29, ⟨trivial, ⟨trivial, trivial⟩⟩⟩⟩⟩
                refine TS.reg [.none, .none, (.call (.str y_11) [])] ?_ ?_
                · apply prop_of ?_ hq
                  kernel_rfl
                refine XS.then ?_
                refine TS.ret ?_
                refine XS.blockRet ?_
                refine XS.passR ?_
                refine XS.backR 3 (mkTs 42 [(3, (.ptr 0 [])), (6, (.ptr 1 []))]) (mkTs 42 [(3, (.ptr 0 [])), (6, (.ptr 1 [])), (27, (.tup (.cons (.str y_11) (.cons (.opq false) .nil))))], [(.box 24 (.st (.cons (.row 2) (.int .i64 d_Sense)))), (.box 24 (.st (.cons .nilS (.int .i64 (0 : Int))))), (.row 9 .str y_5), .dead]) ((True) ∧ ((True) ∧ (True))) (by kernel_rfl) (by kernel_rfl) ⟨trivial, ⟨trivial, trivial⟩⟩ ?_
                refine KS.ofX ?_
                refine XS.wk (.ifc false 27 [true, false] (some (60, (.int .i64)))) ?_
                refine XS.wk (.frz 2) ?_
                refine XS.reAny [0, 1] (mkMask 42 [3, 6, 27]) (y_11, (0 : Int), false, y_5) h ?_
                kernel_rfl
              · refine TS.cond ((((command.getD 0 0).toNat : Nat) : Int) == (26 : Int)) ?_ (fun hcz => by rw [c27] at hcz; cases hcz) (fun hcz => ?_)
                · kernel_rfl
                refine TS.seq ?_
                have hq : (True) ∧ ((True) ∧ (True)) := ⟨trivial, ⟨trivial, trivial⟩⟩
                refine TS.reg [] ?_ ?_
                · apply prop_of ?_ hq
                  kernel_rfl
                refine XS.then ?_
                rcases bif_some h with ⟨c30, h⟩ | ⟨c31, h⟩
                · refine TS.cond ((((command.getD 0 0).toNat : Nat) : Int) == (37 : Int)) ?_ (fun hcz => ?_) (fun hcz => by rw [c30] at hcz; cases hcz)
                  · kernel_rfl
                  refine TS.seq ?_
                  obtain ⟨y_12, hx32, h⟩ := bind_some' h
                  obtain ⟨y_13, hx33, h⟩ := bind_some' h
                  obtain ⟨t34, h⟩ := test_some h
                  have hq : (True) ∧ ((True) ∧ ((True) ∧ ((True) ∧ ((True) ∧ ((True) ∧ ((PureC Try.prog 55 [(.int .i64 (IntKind.wrap .i64 (((y_5.length : Nat) : Int) - (1 : Int))))] (.str y_12) []) ∧ ((PureC Try.prog 55 [(.int .i64 (16 : Int))] (.str y_13) []) ∧ ((y_12.length + y_13.length ≤ 9223372036854775807) ∧ ((True) ∧ ((True) ∧ (True))))))))))) := ⟨trivial, ⟨trivial, ⟨trivial, ⟨trivial, ⟨trivial, ⟨trivial, ⟨F55_ok n (IntKind.wrap .i64 (((y_5.length : Nat) : Int) - (1 : Int))) y_12 hx32, ⟨F55_ok n (16 : Int) y_13 hx33, ⟨of_decide_eq_true t34, ⟨trivial, ⟨trivial, trivial⟩⟩⟩⟩⟩⟩⟩⟩⟩⟩⟩
                  refine TS.reg [.none, .none, .none, .none, .none, .none, (.call (.str y_12) []), (.call (.str y_13) [])] ?_ ?_
                  · apply prop_of ?_ hq
                    kernel_rfl
                  refine XS.then ?_
                  refine TS.ret ?_
                  refine XS.blockRet ?_
                  refine XS.passR ?_
                  refine XS.backR 3 (mkTs 42 [(3, (.ptr 0 [])), (6, (.ptr 1 []))]) (mkTs 42 [(3, (.ptr 0 [])), (6, (.ptr 1 [])), (27, (.tup (.cons (.str (y_12 ++ y_13)) (.cons (.opq false) .nil))))], [(.box 24 (.st (.cons (.row 2) (.int .i64 d_Sense)))), (.box 24 (.st (.cons .nilS (.int .i64 (0 : Int))))), (.row 9 .str y_5), .dead]) ((True) ∧ ((True) ∧ (True))) (by kernel_rfl) (by kernel_rfl) ⟨trivial, ⟨trivial, trivial⟩⟩ ?_
                  refine KS.ofX ?_
                  refine XS.wk (.ifc false 27 [true, false] (some (60, (.int .i64)))) ?_
                  refine XS.wk (.frz 2) ?_
                  refine XS.reAny [0, 1] (mkMask 42 [3, 6, 27]) ((y_12 ++ y_13), (0 : Int), false, y_5) h ?_
                  kernel_rfl
                · refine TS.cond ((((command.getD 0 0).toNat : Nat) : Int) == (37 : Int)) ?_ (fun hcz => by rw [c31] at hcz; cases hcz) (fun hcz => ?_)
                  · kernel_rfl
                  refine TS.skip ?_
                  refine XS.blockEnd ?_
                  refine XS.then ?_
                  refine TS.seq ?_
                  refine TS.opsOf ?_
                  have hq : (True) ∧ ((True) ∧ ((True) ∧ (True))) := ⟨trivial, ⟨trivial, ⟨trivial, trivial⟩⟩⟩
                  refine TOS.run 3 [] (by kernel_rfl) ?_ ?_
                  · apply prop_of ?_ hq
                    kernel_rfl
                  refine TOS.callJ (D := (List UInt8) × Int × Bool × (List (List UInt8))) (fun d => match d with | (x_4, x_5, x_6, m1) => (mkTs 72 [(6, (.str ([] : List UInt8))), (7, (.opq false)), (69, (.tup (.cons (.str x_4) (.cons (.ifc 60 (.int .i64) x_5 x_6) .nil))))], [(.sav (mkTs 42 [(3, (.ptr 1 [])), (6, (.ptr 2 []))]) fv4), (.box 24 (.st (.cons (.sl .str m1) (.int .i64 d_Sense)))), (.box 24 (.st (.cons .nilS (.int .i64 (0 : Int)))))])) (fun d => F8_j31 n d = some r) 56 (mkMask 72 [6, 7]) Try.func56 rfl ?_ ?_
                  · rintro ⟨x_4, x_5, x_6, m1⟩ h
                    replace h : (F8_j26 n (x_4, x_5, x_6, m1)) = some r := h
                    have hq : (True) ∧ ((True) ∧ ((True) ∧ ((True) ∧ (True)))) := ⟨trivial, ⟨trivial, ⟨trivial, ⟨trivial, trivial⟩⟩⟩⟩
                    refine TOS.run 4 [] (by kernel_rfl) ?_ ?_
                    · apply prop_of ?_ hq
                      kernel_rfl
                    refine TOS.nil (by kernel_rfl) ?_
                    refine XS.then ?_
                    refine TS.ret ?_
                    refine XS.backR 0 (mkTs 42 [(3, (.ptr 1 [])), (6, (.ptr 2 []))]) (mkTs 42 [(3, (.ptr 1 [])), (6, (.ptr 2 [])), (27, (.tup (.cons (.str x_4) (.cons (.ifc 60 (.int .i64) x_5 x_6) .nil))))], [.dead, (.box 24 (.st (.cons (.sl .str m1) (.int .i64 d_Sense)))), (.box 24 (.st (.cons .nilS (.int .i64 (0 : Int)))))]) ((True) ∧ ((True) ∧ (True))) (by kernel_rfl) (by kernel_rfl) ⟨trivial, ⟨trivial, trivial⟩⟩ ?_
                    refine KS.ofX ?_
                    refine XS.reAny [1, 2] (mkMask 42 [3, 6, 27]) (x_4, x_5, x_6, m1) h ?_
                    kernel_rfl
                  · intro fv6
                    refine ⟨(mkTs 89 [(0, (.ptr 0 [])), (1, (.str command)), (2, (.str data))], [(.box 24 (.st (.cons (.row 2) (.int .i64 d_Sense)))), (.box 24 (.st (.cons .nilS (.int .i64 (0 : Int))))), (.row 9 .str y_5), (.sav (mkTs 42 [(3, (.ptr 0 [])), (6, (.ptr 1 []))]) fv4), (.sav (mkTs 72 [(6, (.str ([] : List UInt8))), (7, (.opq false))]) fv6)]), by kernel_rfl, ?_⟩
                    refine TS.seq ?_
                    have hq : (True) ∧ ((True) ∧ (True)) := ⟨trivial, ⟨trivial, trivial⟩⟩
                    refine TS.reg [] ?_ ?_
                    · apply prop_of ?_ hq
                      kernel_rfl
                    refine XS.then ?_
                    refine TS.seq ?_
                    obtain ⟨t35, h⟩ := test_some h
                    obtain ⟨t36, h⟩ := test_some h
                    obtain ⟨t37, h⟩ := test_some h
                    obtain ⟨t38, h⟩ := test_some h
                    have hq : ((True) ∧ ((inR (2 : Int) command.length) ∧ ((True) ∧ ((0 ≤ (24 : Int)) ∧ ((True) ∧ ((inR (3 : Int) command.length) ∧ ((True) ∧ ((0 ≤ (16 : Int)) ∧ ((True) ∧ ((True) ∧ ((inR (4 : Int) command.length) ∧ ((True) ∧ ((0 ≤ (8 : Int)) ∧ ((True) ∧ ((True) ∧ ((inR (5 : Int) command.length) ∧ ((True) ∧ ((True) ∧ (True))))))))))))))))))) ∧ ((True) ∧ (True)) := ⟨⟨trivial, ⟨inb_ok t35, ⟨trivial, ⟨by decide, ⟨trivial, ⟨inb_ok t36, ⟨trivial, ⟨by decide, ⟨trivial, ⟨trivial, ⟨inb_ok t37, ⟨trivial, ⟨by decide, ⟨trivial, ⟨trivial, ⟨inb_ok t38, ⟨trivial, ⟨trivial, trivial⟩⟩⟩⟩⟩⟩⟩⟩⟩⟩⟩⟩⟩⟩⟩⟩⟩⟩, ⟨trivial, trivial⟩⟩
                    refine TS.draw 18 [] [] (by kernel_rfl) ?_ ?_
                    · apply prop_of ?_ hq
                      kernel_rfl
                    refine XS.then ?_
                    refine TS.seq ?_
                    obtain ⟨t39, h⟩ := test_some h
                    obtain ⟨t40, h⟩ := test_some h
                    have hq : ((True) ∧ ((inR (7 : Int) command.length) ∧ ((True) ∧ ((0 ≤ (8 : Int)) ∧ ((True) ∧ ((inR (8 : Int) command.length) ∧ ((True) ∧ ((True) ∧ (True))))))))) ∧ ((True) ∧ (True)) := ⟨⟨trivial, ⟨inb_ok t39, ⟨trivial, ⟨by decide, ⟨trivial, ⟨inb_ok t40, ⟨trivial, ⟨trivial, trivial⟩⟩⟩⟩⟩⟩⟩⟩, ⟨trivial, trivial⟩⟩
                    refine TS.draw 8 [] [] (by kernel_rfl) ?_ ?_
                    · apply prop_of ?_ hq
                      kernel_rfl
                    refine XS.then ?_
                    refine TS.seq ?_
                    refine TS.seq ?_
                    have hq : (True) ∧ ((True) ∧ ((True) ∧ ((True) ∧ ((True) ∧ ((True) ∧ ((True) ∧ ((True) ∧ ((True) ∧ (True))))))))) := ⟨trivial, ⟨trivial, ⟨trivial, ⟨trivial, ⟨trivial, ⟨trivial, ⟨trivial, ⟨trivial, ⟨trivial, trivial⟩⟩⟩⟩⟩⟩⟩⟩⟩
                    refine TS.reg [] ?_ ?_
                    · apply prop_of ?_ hq
                      kernel_rfl
                    refine XS.then ?_
                    rcases bif_some h with ⟨c41, h⟩ | ⟨c42, h⟩
                    · refine TS.cond (decide ((IntKind.wrap .i64 ((bitsI .or .i64 (bitsI .or .i64 (bitsI .or .i64 (shlI .i64 (IntKind.wrap .i64 ((((command.getD 2 0).toNat : Nat) : Int))) (24 : Int)) (shlI .i64 (IntKind.wrap .i64 ((((command.getD 3 0).toNat : Nat) : Int))) (16 : Int))) (shlI .i64 (IntKind.wrap .i64 ((((command.getD 4 0).toNat : Nat) : Int))) (8 : Int))) (IntKind.wrap .i64 ((((command.getD 5 0).toNat : Nat) : Int)))) + (bitsI .or .i64 (shlI .i64 (IntKind.wrap .i64 ((((command.getD 7 0).toNat : Nat) : Int))) (8 : Int)) (IntKind.wrap .i64 ((((command.getD 8 0).toNat : Nat) : Int)))))) > ((y_5.length : Nat) : Int))) ?_ (fun hcz => ?_) (fun hcz => by rw [c41] at hcz; cases hcz)
                      · kernel_rfl
                      refine TS.seq ?_
                      have hq : (True) ∧ ((True) ∧ ((True) ∧ (True))) := ⟨trivial, ⟨trivial, ⟨trivial, trivial⟩⟩⟩
                      refine TS.reg [] ?_ ?_
                      · apply prop_of ?_ hq
                        kernel_rfl
                      refine XS.then ?_
                      refine TS.ret ?_
                      refine XS.passR ?_
                      refine XS.backR 4 (mkTs 72 [(6, (.str ([] : List UInt8))), (7, (.opq false))]) (mkTs 72 [(6, (.str ([] : List UInt8))), (7, (.opq false)), (69, (.tup (.cons (.str ([] : List UInt8)) (.cons (.ifc 60 (.int .i64) (33 : Int) true) .nil))))], [(.box 24 (.st (.cons (.row 2) (.int .i64 d_Sense)))), (.box 24 (.st (.cons .nilS (.int .i64 (0 : Int))))), (.row 9 .str y_5), (.sav (mkTs 42 [(3, (.ptr 0 [])), (6, (.ptr 1 []))]) fv4), .dead]) ((True) ∧ ((True) ∧ (True))) (by kernel_rfl) (by kernel_rfl) ⟨trivial, ⟨trivial, trivial⟩⟩ ?_
                      refine KS.ofX ?_
                      refine XS.wk (.frz 2) ?_
                      refine XS.reAny [3, 0, 1] (mkMask 72 [6, 7, 69]) (([] : List UInt8), (33 : Int), true, y_5) h ?_
                      kernel_rfl
                    · refine TS.cond (decide ((IntKind.wrap .i64 ((bitsI .or .i64 (bitsI .or .i64 (bitsI .or .i64 (shlI .i64 (IntKind.wrap .i64 ((((command.getD 2 0).toNat : Nat) : Int))) (24 : Int)) (shlI .i64 (IntKind.wrap .i64 ((((command.getD 3 0).toNat : Nat) : Int))) (16 : Int))) (shlI .i64 (IntKind.wrap .i64 ((((command.getD 4 0).toNat : Nat) : Int))) (8 : Int))) (IntKind.wrap .i64 ((((command.getD 5 0).toNat : Nat) : Int)))) + (bitsI .or .i64 (shlI .i64 (IntKind.wrap .i64 ((((command.getD 7 0).toNat : Nat) : Int))) (8 : Int)) (IntKind.wrap .i64 ((((command.getD 8 0).toNat : Nat) : Int)))))) > ((y_5.length : Nat) : Int))) ?_ (fun hcz => by rw [c42] at hcz; cases hcz) (fun hcz => ?_)
                      · kernel_rfl
                      refine TS.skip ?_
                      refine XS.then ?_
                      refine TS.seq ?_
                      refine TS.seq ?_
                      have hq : (True) ∧ ((inR (0 : Int) command.length) ∧ (True)) := ⟨trivial, ⟨inb_ok t10, trivial⟩⟩
                      refine TS.reg [] ?_ ?_
                      · apply prop_of ?_ hq
                        kernel_rfl
                      refine XS.then ?_
                      refine TS.cut (D := List (List UInt8)) (fun d => match d with | m3 => (mkTs 89 [], [(.sav (mkTs 42 [(3, (.ptr 2 [])), (6, (.ptr 4 []))]) fv4), (.sav (mkTs 72 [(6, (.str ([] : List UInt8))), (7, (.opq false))]) fv6), (.box 24 (.st (.cons (.row 3) (.int .i64 d_Sense)))), (.row 9 .str m3), (.box 24 (.st (.cons .nilS (.int .i64 (0 : Int)))))])) (fun d => F8_j33 n d = some r) ?_ ?_
                      · rintro m3 h
                        replace h : (F8_j31 n (([] : List UInt8), (0 : Int), false, m3)) = some r := h
                        refine XS.then ?_
                        refine TS.seq ?_
                        have hq : (True) ∧ ((True) ∧ (True)) := ⟨trivial, ⟨trivial, trivial⟩⟩
                        refine TS.reg [] ?_ ?_
                        · apply prop_of ?_ hq
                          kernel_rfl
                        refine XS.then ?_
                        refine TS.ret ?_
                        refine XS.backR 1 (mkTs 72 [(6, (.str ([] : List UInt8))), (7, (.opq false))]) (mkTs 72 [(6, (.str ([] : List UInt8))), (7, (.opq false)), (69, (.tup (.cons (.str ([] : List UInt8)) (.cons (.opq false) .nil))))], [(.sav (mkTs 42 [(3, (.ptr 2 [])), (6, (.ptr 4 []))]) fv4), .dead, (.box 24 (.st (.cons (.row 3) (.int .i64 d_Sense)))), (.row 9 .str m3), (.box 24 (.st (.cons .nilS (.int .i64 (0 : Int)))))]) ((True) ∧ ((True) ∧ (True))) (by kernel_rfl) (by kernel_rfl) ⟨trivial, ⟨trivial, trivial⟩⟩ ?_
                        refine KS.ofX ?_
                        refine XS.wk (.frz 3) ?_
                        refine XS.wk (.ifc false 69 [true, false] (some (60, (.int .i64)))) ?_
                        refine XS.reAny [0, 2, 4] (mkMask 72 [6, 7, 69]) (([] : List UInt8), (0 : Int), false, m3) h ?_
                        kernel_rfl
                      · refine TS.block ?_
                        refine TS.seq ?_
                        have hq : (True) ∧ ((True) ∧ (True)) := ⟨trivial, ⟨trivial, trivial⟩⟩
                        refine TS.reg [] ?_ ?_
                        · apply prop_of ?_ hq
                          kernel_rfl
                        refine XS.then ?_
                        rcases bif_some h with ⟨c43, h⟩ | ⟨c44, h⟩
                        · refine TS.cond ((((command.getD 0 0).toNat : Nat) : Int) == (40 : Int)) ?_ (fun hcz => ?_) (fun hcz => by rw [c43] at hcz; cases hcz)
                          · kernel_rfl
                          refine TS.seq ?_
                          refine TS.wk (.frz 2) ?_
                          obtain ⟨t45, h⟩ := test_some h
                          obtain ⟨y_14, hx46, h⟩ := bind_some' h
                          have hq : (True) ∧ ((True) ∧ ((True) ∧ ((True) ∧ ((True) ∧ ((True) ∧ ((True) ∧ ((True) ∧ ((subC y_5.length (some (bitsI .or .i64 (bitsI .or .i64 (bitsI .or .i64 (shlI .i64 (IntKind.wrap .i64 ((((command.getD 2 0).toNat : Nat) : Int))) (24 : Int)) (shlI .i64 (IntKind.wrap .i64 ((((command.getD 3 0).toNat : Nat) : Int))) (16 : Int))) (shlI .i64 (IntKind.wrap .i64 ((((command.getD 4 0).toNat : Nat) : Int))) (8 : Int))) (IntKind.wrap .i64 ((((command.getD 5 0).toNat : Nat) : Int))))) (some (IntKind.wrap .i64 ((bitsI .or .i64 (bitsI .or .i64 (bitsI .or .i64 (shlI .i64 (IntKind.wrap .i64 ((((command.getD 2 0).toNat : Nat) : Int))) (24 : Int)) (shlI .i64 (IntKind.wrap .i64 ((((command.getD 3 0).toNat : Nat) : Int))) (16 : Int))) (shlI .i64 (IntKind.wrap .i64 ((((command.getD 4 0).toNat : Nat) : Int))) (8 : Int))) (IntKind.wrap .i64 ((((command.getD 5 0).toNat : Nat) : Int)))) + (bitsI .or .i64 (shlI .i64 (IntKind.wrap .i64 ((((command.getD 7 0).toNat : Nat) : Int))) (8 : Int)) (IntKind.wrap .i64 ((((command.getD 8 0).toNat : Nat) : Int)))))))) ∧ ((PureC Try.prog 26 [(.sl .str ((y_5.take (IntKind.wrap .i64 ((bitsI .or .i64 (bitsI .or .i64 (bitsI .or .i64 (shlI .i64 (IntKind.wrap .i64 ((((command.getD 2 0).toNat : Nat) : Int))) (24 : Int)) (shlI .i64 (IntKind.wrap .i64 ((((command.getD 3 0).toNat : Nat) : Int))) (16 : Int))) (shlI .i64 (IntKind.wrap .i64 ((((command.getD 4 0).toNat : Nat) : Int))) (8 : Int))) (IntKind.wrap .i64 ((((command.getD 5 0).toNat : Nat) : Int)))) + (bitsI .or .i64 (shlI .i64 (IntKind.wrap .i64 ((((command.getD 7 0).toNat : Nat) : Int))) (8 : Int)) (IntKind.wrap .i64 ((((command.getD 8 0).toNat : Nat) : Int)))))).toNat).drop (bitsI .or .i64 (bitsI .or .i64 (bitsI .or .i64 (shlI .i64 (IntKind.wrap .i64 ((((command.getD 2 0).toNat : Nat) : Int))) (24 : Int)) (shlI .i64 (IntKind.wrap .i64 ((((command.getD 3 0).toNat : Nat) : Int))) (16 : Int))) (shlI .i64 (IntKind.wrap .i64 ((((command.getD 4 0).toNat : Nat) : Int))) (8 : Int))) (IntKind.wrap .i64 ((((command.getD 5 0).toNat : Nat) : Int)))).toNat)), (.str ([] : List UInt8))] (.str y_14) []) ∧ ((True) ∧ ((True) ∧ (True)))))))))))) := ⟨trivial, ⟨trivial, ⟨trivial, ⟨trivial, ⟨trivial, ⟨trivial, ⟨trivial, ⟨trivial, ⟨subB_ok t45, ⟨F26_ok n ((y_5.take (IntKind.wrap .i64 ((bitsI .or .i64 (bitsI .or .i64 (bitsI .or .i64 (shlI .i64 (IntKind.wrap .i64 ((((command.getD 2 0).toNat : Nat) : Int))) (24 : Int)) (shlI .i64 (IntKind.wrap .i64 ((((command.getD 3 0).toNat : Nat) : Int))) (16 : Int))) (shlI .i64 (IntKind.wrap .i64 ((((command.getD 4 0).toNat : Nat) : Int))) (8 : Int))) (IntKind.wrap .i64 ((((command.getD 5 0).toNat : Nat) : Int)))) + (bitsI .or .i64 (shlI .i64 (IntKind.wrap .i64 ((((command.getD 7 0).toNat : Nat) : Int))) (8 : Int)) (IntKind.wrap .i64 ((((command.getD 8 0).toNat : Nat) : Int)))))).toNat).drop (bitsI .or .i64 (bitsI .or .i64 (bitsI .or .i64 (shlI .i64 (IntKind.wrap .i64 ((((command.getD 2 0).toNat : Nat) : Int))) (24 : Int)) (shlI .i64 (IntKind.wrap .i64 ((((command.getD 3 0).toNat : Nat) : Int))) (16 : Int))) (shlI .i64 (IntKind.wrap .i64 ((((command.getD 4 0).toNat : Nat) : Int))) (8 : Int))) (IntKind.wrap .i64 ((((command.getD 5 0).toNat : Nat) : Int)))).toNat) ([] : List UInt8) y_14 hx46, ⟨trivial, ⟨trivial, trivial⟩⟩⟩⟩⟩⟩⟩⟩⟩⟩⟩⟩
                          refine TS.reg [.none, .none, .none, .none, .none, .none, .none, .none, .none, (.call (.str y_14) [])] ?_ ?_
                          · apply prop_of ?_ hq
                            kernel_rfl
                          refine XS.then ?_
                          refine TS.ret ?_
                          refine XS.blockRet ?_
                          refine XS.passR ?_
                          refine XS.passR ?_
                          refine XS.backR 4 (mkTs 72 [(6, (.str ([] : List UInt8))), (7, (.opq false))]) (mkTs 72 [(6, (.str ([] : List UInt8))), (7, (.opq false)), (69, (.tup (.cons (.str y_14) (.cons (.opq false) .nil))))], [(.box 24 (.st (.cons (.sl .str y_5) (.int .i64 d_Sense)))), (.box 24 (.st (.cons .nilS (.int .i64 (0 : Int))))), .dead, (.sav (mkTs 42 [(3, (.ptr 0 [])), (6, (.ptr 1 []))]) fv4), .dead]) ((True) ∧ ((True) ∧ (True))) (by kernel_rfl) (by kernel_rfl) ⟨trivial, ⟨trivial, trivial⟩⟩ ?_
                          refine KS.ofX ?_
                          refine XS.wk (.ifc false 69 [true, false] (some (60, (.int .i64)))) ?_
                          refine XS.reAny [3, 0, 1] (mkMask 72 [6, 7, 69]) (y_14, (0 : Int), false, y_5) h ?_
                          kernel_rfl
                        · refine TS.cond ((((command.getD 0 0).toNat : Nat) : Int) == (40 : Int)) ?_ (fun hcz => by rw [c44] at hcz; cases hcz) (fun hcz => ?_)
                          · kernel_rfl
                          refine TS.seq ?_
                          have hq : (True) ∧ ((True) ∧ (True)) := ⟨trivial, ⟨trivial, trivial⟩⟩
                          refine TS.reg [] ?_ ?_
                          · apply prop_of ?_ hq
                            kernel_rfl
                          refine XS.then ?_
                          rcases bif_some h with ⟨c47, h⟩ | ⟨c48, h⟩
                          · refine TS.cond ((((command.getD 0 0).toNat : Nat) : Int) == (42 : Int)) ?_ (fun hcz => ?_) (fun hcz => by rw [c47] at hcz; cases hcz)
                            · kernel_rfl
                            refine TS.seq ?_
                            refine TS.seq ?_
                            have hq : (True) ∧ ((True) ∧ ((True) ∧ ((True) ∧ ((True) ∧ (True))))) := ⟨trivial, ⟨trivial, ⟨trivial, ⟨trivial, ⟨trivial, trivial⟩⟩⟩⟩⟩
                            refine TS.reg [] ?_ ?_
                            · apply prop_of ?_ hq
                              kernel_rfl
                            refine XS.then ?_
                            rcases bif_some h with ⟨c49, h⟩ | ⟨c50, h⟩
                            · refine TS.cond (((data.length : Nat) : Int) != (IntKind.wrap .i64 ((bitsI .or .i64 (shlI .i64 (IntKind.wrap .i64 ((((command.getD 7 0).toNat : Nat) : Int))) (8 : Int)) (IntKind.wrap .i64 ((((command.getD 8 0).toNat : Nat) : Int)))) * (16 : Int)))) ?_ (fun hcz => ?_) (fun hcz => by rw [c49] at hcz; cases hcz)
                              · kernel_rfl
                              refine TS.seq ?_
                              have hq : (True) ∧ ((True) ∧ ((True) ∧ (True))) := ⟨trivial, ⟨trivial, ⟨trivial, trivial⟩⟩⟩
                              refine TS.reg [] ?_ ?_
                              · apply prop_of ?_ hq
                                kernel_rfl
                              refine XS.then ?_
                              refine TS.ret ?_
                              refine XS.passR ?_
                              refine XS.blockRet ?_
                              refine XS.passR ?_
                              refine XS.passR ?_
                              refine XS.backR 4 (mkTs 72 [(6, (.str ([] : List UInt8))), (7, (.opq false))]) (mkTs 72 [(6, (.str ([] : List UInt8))), (7, (.opq false)), (69, (.tup (.cons (.str ([] : List UInt8)) (.cons (.ifc 60 (.int .i64) (36 : Int) true) .nil))))], [(.box 24 (.st (.cons (.row 2) (.int .i64 d_Sense)))), (.box 24 (.st (.cons .nilS (.int .i64 (0 : Int))))), (.row 9 .str y_5), (.sav (mkTs 42 [(3, (.ptr 0 [])), (6, (.ptr 1 []))]) fv4), .dead]) ((True) ∧ ((True) ∧ (True))) (by kernel_rfl) (by kernel_rfl) ⟨trivial, ⟨trivial, trivial⟩⟩ ?_
                              refine KS.ofX ?_
                              refine XS.wk (.frz 2) ?_
                              refine XS.reAny [3, 0, 1] (mkMask 72 [6, 7, 69]) (([] : List UInt8), (36 : Int), true, y_5) h ?_
                              kernel_rfl
                            · refine TS.cond (((data.length : Nat) : Int) != (IntKind.wrap .i64 ((bitsI .or .i64 (shlI .i64 (IntKind.wrap .i64 ((((command.getD 7 0).toNat : Nat) : Int))) (8 : Int)) (IntKind.wrap .i64 ((((command.getD 8 0).toNat : Nat) : Int)))) * (16 : Int)))) ?_ (fun hcz => by rw [c50] at hcz; cases hcz) (fun hcz => ?_)
                              · kernel_rfl
                              refine TS.skip ?_
                              refine XS.then ?_
                              refine TS.seq ?_
                              have hq : (True) ∧ ((True) ∧ (True)) := ⟨trivial, ⟨trivial, trivial⟩⟩
                              refine TS.reg [] ?_ ?_
                              · apply prop_of ?_ hq
                                kernel_rfl
                              refine XS.then ?_
                              refine TS.block ?_
                              refine TS.reLoop [3, 4, 0, 2, 1] (mkMask 89 [0, 2, 8, 69, 70]) (D := Int × (List (List UInt8))) (fun d => match d with | (x_7, m3_2) => (mkTs 89 [(0, (.ptr 2 [])), (2, (.str data)), (8, (.int .i64 (bitsI .or .i64 (bitsI .or .i64 (bitsI .or .i64 (shlI .i64 (IntKind.wrap .i64 ((((command.getD 2 0).toNat : Nat) : Int))) (24 : Int)) (shlI .i64 (IntKind.wrap .i64 ((((command.getD 3 0).toNat : Nat) : Int))) (16 : Int))) (shlI .i64 (IntKind.wrap .i64 ((((command.getD 4 0).toNat : Nat) : Int))) (8 : Int))) (IntKind.wrap .i64 ((((command.getD 5 0).toNat : Nat) : Int)))))), (69, (.int .i64 (bitsI .or .i64 (shlI .i64 (IntKind.wrap .i64 ((((command.getD 7 0).toNat : Nat) : Int))) (8 : Int)) (IntKind.wrap .i64 ((((command.getD 8 0).toNat : Nat) : Int)))))), (70, (.int .i64 x_7))], [(.sav (mkTs 42 [(3, (.ptr 2 [])), (6, (.ptr 4 []))]) fv4), (.sav (mkTs 72 [(6, (.str ([] : List UInt8))), (7, (.opq false))]) fv6), (.box 24 (.st (.cons (.row 3) (.int .i64 d_Sense)))), (.row 9 .str m3_2), (.box 24 (.st (.cons .nilS (.int .i64 (0 : Int)))))])) (fun n' d => loopF (F8_l34 n command data) n' d = some r) n ((0 : Int), y_5) h ?_ (fun d => loopF_zero _ d r) ?_
                              · kernel_rfl
                              · rintro n34 ⟨x_7, m3_2⟩ h
                                replace h : (bif (decide (x_7 < (bitsI .or .i64 (shlI .i64 (IntKind.wrap .i64 ((((command.getD 7 0).toNat : Nat) : Int))) (8 : Int)) (IntKind.wrap .i64 ((((command.getD 8 0).toNat : Nat) : Int)))))) then (bif subB data.length (some (IntKind.wrap .i64 (x_7 * (16 : Int)))) (some (IntKind.wrap .i64 ((IntKind.wrap .i64 (x_7 + (1 : Int))) * (16 : Int)))) then (bif inb (IntKind.wrap .i64 ((bitsI .or .i64 (bitsI .or .i64 (bitsI .or .i64 (shlI .i64 (IntKind.wrap .i64 ((((command.getD 2 0).toNat : Nat) : Int))) (24 : Int)) (shlI .i64 (IntKind.wrap .i64 ((((command.getD 3 0).toNat : Nat) : Int))) (16 : Int))) (shlI .i64 (IntKind.wrap .i64 ((((command.getD 4 0).toNat : Nat) : Int))) (8 : Int))) (IntKind.wrap .i64 ((((command.getD 5 0).toNat : Nat) : Int)))) + x_7)) m3_2.length then ((loopF (F8_l34 n command data) n34) ((IntKind.wrap .i64 (x_7 + (1 : Int))), (m3_2.set ((IntKind.wrap .i64 ((bitsI .or .i64 (bitsI .or .i64 (bitsI .or .i64 (shlI .i64 (IntKind.wrap .i64 ((((command.getD 2 0).toNat : Nat) : Int))) (24 : Int)) (shlI .i64 (IntKind.wrap .i64 ((((command.getD 3 0).toNat : Nat) : Int))) (16 : Int))) (shlI .i64 (IntKind.wrap .i64 ((((command.getD 4 0).toNat : Nat) : Int))) (8 : Int))) (IntKind.wrap .i64 ((((command.getD 5 0).toNat : Nat) : Int)))) + x_7)).toNat) ((data.take (IntKind.wrap .i64 ((IntKind.wrap .i64 (x_7 + (1 : Int))) * (16 : Int))).toNat).drop (IntKind.wrap .i64 (x_7 * (16 : Int))).toNat)))) else none) else none) else (F8_j33 n m3_2)) = some r := h
                                refine TS.seq ?_
                                have hq : (True) ∧ (True) := ⟨trivial, trivial⟩
                                refine TS.reg [] ?_ ?_
                                · apply prop_of ?_ hq
                                  kernel_rfl
                                refine XS.then ?_
                                refine TS.seq ?_
                                rcases bif_some h with ⟨c51, h⟩ | ⟨c52, h⟩
                                · refine TS.cond (decide (x_7 < (bitsI .or .i64 (shlI .i64 (IntKind.wrap .i64 ((((command.getD 7 0).toNat : Nat) : Int))) (8 : Int)) (IntKind.wrap .i64 ((((command.getD 8 0).toNat : Nat) : Int)))))) ?_ (fun hcz => ?_) (fun hcz => by rw [c51] at hcz; cases hcz)
                                  · kernel_rfl
                                  refine TS.skip ?_
                                  refine XS.then ?_
                                  refine TS.seq ?_
                                  refine TS.block ?_
                                  refine TS.seq ?_
                                  have hq : (True) ∧ ((True) ∧ (True)) := ⟨trivial, ⟨trivial, trivial⟩⟩
                                  refine TS.reg [] ?_ ?_
                                  · apply prop_of ?_ hq
                                    kernel_rfl
                                  refine XS.then ?_
                                  obtain ⟨t53, h⟩ := test_some h
                                  obtain ⟨t54, h⟩ := test_some h
                                  have hq : ((True) ∧ ((True) ∧ ((True) ∧ ((True) ∧ ((True) ∧ ((True) ∧ ((True) ∧ ((True) ∧ ((True) ∧ ((True) ∧ ((True) ∧ ((True) ∧ ((True) ∧ ((subC data.length (some (IntKind.wrap .i64 (x_7 * (16 : Int)))) (some (IntKind.wrap .i64 ((IntKind.wrap .i64 (x_7 + (1 : Int))) * (16 : Int))))) ∧ ((inR (IntKind.wrap .i64 ((bitsI .or .i64 (bitsI .or .i64 (bitsI .or .i64 (shlI .i64 (IntKind.wrap .i64 ((((command.getD 2 0).toNat : Nat) : Int))) (24 : Int)) (shlI .i64 (IntKind.wrap .i64 ((((command.getD 3 0).toNat : Nat) : Int))) (16 : Int))) (shlI .i64 (IntKind.wrap .i64 ((((command.getD 4 0).toNat : Nat) : Int))) (8 : Int))) (IntKind.wrap .i64 ((((command.getD 5 0).toNat : Nat) : Int)))) + x_7)) m3_2.length) ∧ (True)))))))))))))))) ∧ (((((IntKind.wrap .i64 ((bitsI .or .i64 (bitsI .or .i64 (bitsI .or .i64 (shlI .i64 (IntKind.wrap .i64 ((((command.getD 2 0).toNat : Nat) : Int))) (24 : Int)) (shlI .i64 (IntKind.wrap .i64 ((((command.getD 3 0).toNat : Nat) : Int))) (16 : Int))) (shlI .i64 (IntKind.wrap .i64 ((((command.getD 4 0).toNat : Nat) : Int))) (8 : Int))) (IntKind.wrap .i64 ((((command.getD 5 0).toNat : Nat) : Int)))) + x_7)).toNat) < m3_2.length ∧ (True)) ∧ m3_2.length = m3_2.length) ∧ (True)) := ⟨⟨trivial, ⟨trivial, ⟨trivial, ⟨trivial, ⟨trivial, ⟨trivial, ⟨trivial, ⟨trivial, ⟨trivial, ⟨trivial, ⟨trivial, ⟨trivial, ⟨trivial, ⟨subB_ok t53, ⟨inb_ok t54, trivial⟩⟩⟩⟩⟩⟩⟩⟩⟩⟩⟩⟩⟩⟩⟩, ⟨⟨⟨inR_lt (inb_ok t54), trivial⟩, rfl⟩, trivial⟩⟩
                                  refine TS.draw 15 [] [] (by kernel_rfl) ?_ ?_
                                  · apply prop_of ?_ hq
                                    kernel_rfl
                                  refine XS.blockEnd ?_
                                  refine XS.then ?_
                                  have hq : (True) ∧ ((True) ∧ (True)) := ⟨trivial, ⟨trivial, trivial⟩⟩
                                  refine TS.reg [] ?_ ?_
                                  · apply prop_of ?_ hq
                                    kernel_rfl
                                  refine XS.reAny [0, 1, 2, 3, 4] (mkMask 89 [0, 2, 8, 69, 70]) ((IntKind.wrap .i64 (x_7 + (1 : Int))), (m3_2.set ((IntKind.wrap .i64 ((bitsI .or .i64 (bitsI .or .i64 (bitsI .or .i64 (shlI .i64 (IntKind.wrap .i64 ((((command.getD 2 0).toNat : Nat) : Int))) (24 : Int)) (shlI .i64 (IntKind.wrap .i64 ((((command.getD 3 0).toNat : Nat) : Int))) (16 : Int))) (shlI .i64 (IntKind.wrap .i64 ((((command.getD 4 0).toNat : Nat) : Int))) (8 : Int))) (IntKind.wrap .i64 ((((command.getD 5 0).toNat : Nat) : Int)))) + x_7)).toNat) ((data.take (IntKind.wrap .i64 ((IntKind.wrap .i64 (x_7 + (1 : Int))) * (16 : Int))).toNat).drop (IntKind.wrap .i64 (x_7 * (16 : Int))).toNat))) h ?_
                                  kernel_rfl
                                · refine TS.cond (decide (x_7 < (bitsI .or .i64 (shlI .i64 (IntKind.wrap .i64 ((((command.getD 7 0).toNat : Nat) : Int))) (8 : Int)) (IntKind.wrap .i64 ((((command.getD 8 0).toNat : Nat) : Int)))))) ?_ (fun hcz => by rw [c52] at hcz; cases hcz) (fun hcz => ?_)
                                  · kernel_rfl
                                  refine TS.exit ?_
                                  refine XS.passE ?_
                                  refine XS.passE ?_
                                  refine XS.out ?_
                                  refine XS.blockEnd ?_
                                  refine XS.reAny [0, 1, 2, 3, 4] (mkMask 89 []) m3_2 h ?_
                                  kernel_rfl
                          · refine TS.cond ((((command.getD 0 0).toNat : Nat) : Int) == (42 : Int)) ?_ (fun hcz => by rw [c48] at hcz; cases hcz) (fun hcz => ?_)
                            · kernel_rfl
                            refine TS.skip ?_
                            refine XS.blockEnd ?_
                            refine XS.reAny [3, 4, 0, 2, 1] (mkMask 89 []) y_5 h ?_
                            kernel_rfl

/-! plugtree/bulk.intends -/
def F31_j2 (n : Nat) (d_Blocks : List (List UInt8)) (d_Sense : Int) (command : List UInt8) : Unit → Option (Int × Int)
  | () => ((F8 n d_Blocks d_Sense command ([] : List UInt8)).bind fun y_3 => (bif (y_3.2.2.2 == (0 : Int)) then (bif (!(y_3.2.2.1 == ([] : List UInt8))) then (some ((1 : Int), ((y_3.2.2.1.length : Nat) : Int))) else (some ((0 : Int), (0 : Int)))) else (some ((0 : Int), (0 : Int)))))
def F31 (n : Nat) (d_Blocks : List (List UInt8)) (d_Sense : Int) (command : List UInt8) : Option (Int × Int) := (bif (((command.length : Nat) : Int) == (10 : Int)) then (bif inb (0 : Int) command.length then (bif ((((command.getD 0 0).toNat : Nat) : Int) == (42 : Int)) then (bif inb (7 : Int) command.length then (bif inb (8 : Int) command.length then ((F39 n ([0] : List UInt8) (IntKind.wrap .i64 ((bitsI .or .i64 (shlI .i64 (IntKind.wrap .i64 ((((command.getD 7 0).toNat : Nat) : Int))) (8 : Int)) (IntKind.wrap .i64 ((((command.getD 8 0).toNat : Nat) : Int)))) * (16 : Int)))).bind fun y_4 => ((F8 n d_Blocks d_Sense command y_4).bind fun y_5 => (bif (y_5.2.2.2 == (0 : Int)) then (bif (decide ((IntKind.wrap .i64 ((bitsI .or .i64 (shlI .i64 (IntKind.wrap .i64 ((((command.getD 7 0).toNat : Nat) : Int))) (8 : Int)) (IntKind.wrap .i64 ((((command.getD 8 0).toNat : Nat) : Int)))) * (16 : Int))) > (0 : Int))) then (some ((2 : Int), (IntKind.wrap .i64 ((bitsI .or .i64 (shlI .i64 (IntKind.wrap .i64 ((((command.getD 7 0).toNat : Nat) : Int))) (8 : Int)) (IntKind.wrap .i64 ((((command.getD 8 0).toNat : Nat) : Int)))) * (16 : Int))))) else (F31_j2 n d_Blocks d_Sense command ())) else (F31_j2 n d_Blocks d_Sense command ())))) else none) else none) else (F31_j2 n d_Blocks d_Sense command ())) else none) else ((F8 n d_Blocks d_Sense command ([] : List UInt8)).bind fun y_6 => (bif (y_6.2.2.2 == (0 : Int)) then (bif (!(y_6.2.2.1 == ([] : List UInt8))) then (some ((1 : Int), ((y_6.2.2.1.length : Nat) : Int))) else (some ((0 : Int), (0 : Int)))) else (some ((0 : Int), (0 : Int))))))
theorem F31_ok (n : Nat) (d_Blocks : List (List UInt8)) (d_Sense : Int) (command : List UInt8) (r : Int × Int) (h : F31 n d_Blocks d_Sense command = some r) : PureC Try.prog 31 [(.st (.cons (.sl .str d_Blocks) (.int .i64 d_Sense))), (.str command)] (.st (.cons (.int .i64 r.1) (.int .i64 r.2))) [] := by
  refine PureC.mkS Try.func31 rfl rfl ?_
  intro w0 fz0 hfz
  replace h : (bif (((command.length : Nat) : Int) == (10 : Int)) then (bif inb (0 : Int) command.length then (bif ((((command.getD 0 0).toNat : Nat) : Int) == (42 : Int)) then (bif inb (7 : Int) command.length then (bif inb (8 : Int) command.length then ((F39 n ([0] : List UInt8) (IntKind.wrap .i64 ((bitsI .or .i64 (shlI .i64 (IntKind.wrap .i64 ((((command.getD 7 0).toNat : Nat) : Int))) (8 : Int)) (IntKind.wrap .i64 ((((command.getD 8 0).toNat : Nat) : Int)))) * (16 : Int)))).bind fun y_4 => ((F8 n d_Blocks d_Sense command y_4).bind fun y_5 => (bif (y_5.2.2.2 == (0 : Int)) then (bif (decide ((IntKind.wrap .i64 ((bitsI .or .i64 (shlI .i64 (IntKind.wrap .i64 ((((command.getD 7 0).toNat : Nat) : Int))) (8 : Int)) (IntKind.wrap .i64 ((((command.getD 8 0).toNat : Nat) : Int)))) * (16 : Int))) > (0 : Int))) then (some ((2 : Int), (IntKind.wrap .i64 ((bitsI .or .i64 (shlI .i64 (IntKind.wrap .i64 ((((command.getD 7 0).toNat : Nat) : Int))) (8 : Int)) (IntKind.wrap .i64 ((((command.getD 8 0).toNat : Nat) : Int)))) * (16 : Int))))) else (F31_j2 n d_Blocks d_Sense command ())) else (F31_j2 n d_Blocks d_Sense command ())))) else none) else none) else (F31_j2 n d_Blocks d_Sense command ())) else none) else ((F8 n d_Blocks d_Sense command ([] : List UInt8)).bind fun y_6 => (bif (y_6.2.2.2 == (0 : Int)) then (bif (!(y_6.2.2.1 == ([] : List UInt8))) then (some ((1 : Int), ((y_6.2.2.1.length : Nat) : Int))) else (some ((0 : Int), (0 : Int)))) else (some ((0 : Int), (0 : Int)))))) = some r := h
  refine TS.seq ?_
  have hq : (True) ∧ ((True) ∧ (True)) := ⟨trivial, ⟨trivial, trivial⟩⟩
  refine TS.reg [] ?_ ?_
  · apply prop_of ?_ hq
    kernel_rfl
  refine XS.then ?_
  refine TS.seq ?_
  refine TS.seq ?_
  rcases bif_some h with ⟨c1, h⟩ | ⟨c2, h⟩
  · obtain ⟨t3, h⟩ := test_some h
    have hq : (True) ∧ ((True) ∧ ((True) ∧ (((True) ∧ (((command.length : Nat) : Int) == (10 : Int)) = true) ∧ ((True) ∧ ((inR (0 : Int) command.length) ∧ ((True) ∧ ((True) ∧ (True)))))))) := ⟨trivial, ⟨trivial, ⟨trivial, ⟨⟨trivial, c1⟩, ⟨trivial, ⟨inb_ok t3, ⟨trivial, ⟨trivial, trivial⟩⟩⟩⟩⟩⟩⟩⟩
    refine TS.reg [.none, .none, .none, .dec true] ?_ ?_
    · apply prop_of ?_ hq
      kernel_rfl
    refine XS.then ?_
    refine TS.cut (D := Unit) (fun d => match d with | () => (mkTs 63 [(1, (.str command)), (2, (.ptr 0 [])), (4, (.ptr 1 []))], [(.box 24 (.st (.cons (.sl .str d_Blocks) (.int .i64 d_Sense)))), (.box 70 (.st (.cons (.int .i64 (0 : Int)) (.int .i64 (0 : Int)))))])) (fun d => F31_j2 n d_Blocks d_Sense command d = some r) ?_ ?_
    · rintro ⟨⟩ h
      replace h : ((F8 n d_Blocks d_Sense command ([] : List UInt8)).bind fun y_3 => (bif (y_3.2.2.2 == (0 : Int)) then (bif (!(y_3.2.2.1 == ([] : List UInt8))) then (some ((1 : Int), ((y_3.2.2.1.length : Nat) : Int))) else (some ((0 : Int), (0 : Int)))) else (some ((0 : Int), (0 : Int))))) = some r := h
      refine XS.then ?_
      refine TS.seq ?_
      refine TS.seq ?_
      obtain ⟨y_3, hx4, h⟩ := bind_some' h
      have hq : (True) ∧ ((True) ∧ ((PureC Try.prog 8 [(.st (.cons (.sl .str d_Blocks) (.int .i64 d_Sense))), (.str command), (.str ([] : List UInt8))] (.tup (.cons (.st (.cons (.sl .str y_3.1) (.int .i64 y_3.2.1))) (.cons (.str y_3.2.2.1) (.cons (.int .i64 y_3.2.2.2) .nil)))) []) ∧ ((True) ∧ ((True) ∧ ((True) ∧ ((True) ∧ ((True) ∧ ((True) ∧ ((True) ∧ ((True) ∧ (True))))))))))) := ⟨trivial, ⟨trivial, ⟨F8_ok n d_Blocks d_Sense command ([] : List UInt8) y_3 hx4, ⟨trivial, ⟨trivial, ⟨trivial, ⟨trivial, ⟨trivial, ⟨trivial, ⟨trivial, ⟨trivial, trivial⟩⟩⟩⟩⟩⟩⟩⟩⟩⟩⟩
      refine TS.reg [.none, .none, (.call (.tup (.cons (.st (.cons (.sl .str y_3.1) (.int .i64 y_3.2.1))) (.cons (.str y_3.2.2.1) (.cons (.int .i64 y_3.2.2.2) .nil)))) [])] ?_ ?_
      · apply prop_of ?_ hq
        kernel_rfl
      refine XS.then ?_
      refine TS.seq ?_
      rcases bif_some h with ⟨c5, h⟩ | ⟨c6, h⟩
      · have hq : (True) ∧ ((True) ∧ (((True) ∧ (y_3.2.2.2 == (0 : Int)) = true) ∧ ((True) ∧ ((True) ∧ ((True) ∧ (True)))))) := ⟨trivial, ⟨trivial, ⟨⟨trivial, c5⟩, ⟨trivial, ⟨trivial, ⟨trivial, trivial⟩⟩⟩⟩⟩⟩
        refine TS.reg [.none, .none, .dec true] ?_ ?_
        · apply prop_of ?_ hq
          kernel_rfl
        refine XS.then ?_
        rcases bif_some h with ⟨c7, h⟩ | ⟨c8, h⟩
        · refine TS.cond (!(y_3.2.2.1 == ([] : List UInt8))) ?_ (fun hcz => ?_) (fun hcz => by rw [c7] at hcz; cases hcz)
          · kernel_rfl
          refine TS.seq ?_
          have hq : (True) ∧ ((True) ∧ (((True) ∧ ((True) ∧ (True))) ∧ ((True) ∧ (True)))) := ⟨trivial, ⟨trivial, ⟨⟨trivial, ⟨trivial, trivial⟩⟩, ⟨trivial, trivial⟩⟩⟩⟩
          refine TS.reg [] ?_ ?_
          · apply prop_of ?_ hq
            kernel_rfl
          refine XS.then ?_
          refine TS.ret ?_
          refine XS.passR ?_
          obtain rfl : ((1 : Int), ((y_3.2.2.1.length : Nat) : Int)) = r := Option.some.inj h
          exact XS.fin [] ((True) ∧ (True)) (by kernel_rfl) ⟨trivial, trivial⟩
        · refine TS.cond (!(y_3.2.2.1 == ([] : List UInt8))) ?_ (fun hcz => by rw [c8] at hcz; cases hcz) (fun hcz => ?_)
          · kernel_rfl
          refine TS.skip ?_
          refine XS.then ?_
          refine TS.seq ?_
          have hq : (True) ∧ ((True) ∧ (True)) := ⟨trivial, ⟨trivial, trivial⟩⟩
          refine TS.reg [] ?_ ?_
          · apply prop_of ?_ hq
            kernel_rfl
          refine XS.then ?_
          refine TS.ret ?_
          obtain rfl : ((0 : Int), (0 : Int)) = r := Option.some.inj h
          exact XS.fin [] ((True) ∧ (True)) (by kernel_rfl) ⟨trivial, trivial⟩
      · have hq : (True) ∧ ((True) ∧ (((True) ∧ (y_3.2.2.2 == (0 : Int)) = false) ∧ ((True) ∧ (True)))) := ⟨trivial, ⟨trivial, ⟨⟨trivial, c6⟩, ⟨trivial, trivial⟩⟩⟩⟩
        refine TS.reg [.none, .none, .dec false] ?_ ?_
        · apply prop_of ?_ hq
          kernel_rfl
        refine XS.then ?_
        refine TS.no ?_ ?_
        · kernel_rfl
        refine TS.skip ?_
        refine XS.then ?_
        refine TS.seq ?_
        have hq : (True) ∧ ((True) ∧ (True)) := ⟨trivial, ⟨trivial, trivial⟩⟩
        refine TS.reg [] ?_ ?_
        · apply prop_of ?_ hq
          kernel_rfl
        refine XS.then ?_
        refine TS.ret ?_
        obtain rfl : ((0 : Int), (0 : Int)) = r := Option.some.inj h
        exact XS.fin [] ((True) ∧ (True)) (by kernel_rfl) ⟨trivial, trivial⟩
    · rcases bif_some h with ⟨c9, h⟩ | ⟨c10, h⟩
      · refine TS.cond ((((command.getD 0 0).toNat : Nat) : Int) == (42 : Int)) ?_ (fun hcz => ?_) (fun hcz => by rw [c9] at hcz; cases hcz)
        · kernel_rfl
        refine TS.seq ?_
        obtain ⟨t11, h⟩ := test_some h
        obtain ⟨t12, h⟩ := test_some h
        have hq : ((True) ∧ ((inR (7 : Int) command.length) ∧ ((True) ∧ ((0 ≤ (8 : Int)) ∧ ((True) ∧ ((inR (8 : Int) command.length) ∧ ((True) ∧ ((True) ∧ ((True) ∧ (True)))))))))) ∧ ((True) ∧ (True)) := ⟨⟨trivial, ⟨inb_ok t11, ⟨trivial, ⟨by decide, ⟨trivial, ⟨inb_ok t12, ⟨trivial, ⟨trivial, ⟨trivial, trivial⟩⟩⟩⟩⟩⟩⟩⟩⟩, ⟨trivial, trivial⟩⟩
        refine TS.draw 9 [] [] (by kernel_rfl) ?_ ?_
        · apply prop_of ?_ hq
          kernel_rfl
        refine XS.then ?_
        refine TS.seq ?_
        obtain ⟨y_4, hx13, h⟩ := bind_some' h
        obtain ⟨y_5, hx14, h⟩ := bind_some' h
        have hq : ((True) ∧ ((True) ∧ ((True) ∧ ((PureC Try.prog 39 [(.str ([0] : List UInt8)), (.int .i64 (IntKind.wrap .i64 ((bitsI .or .i64 (shlI .i64 (IntKind.wrap .i64 ((((command.getD 7 0).toNat : Nat) : Int))) (8 : Int)) (IntKind.wrap .i64 ((((command.getD 8 0).toNat : Nat) : Int)))) * (16 : Int))))] (.str y_4) []) ∧ ((PureC Try.prog 8 [(.st (.cons (.sl .str d_Blocks) (.int .i64 d_Sense))), (.str command), (.str y_4)] (.tup (.cons (.st (.cons (.sl .str y_5.1) (.int .i64 y_5.2.1))) (.cons (.str y_5.2.2.1) (.cons (.int .i64 y_5.2.2.2) .nil)))) []) ∧ ((True) ∧ ((True) ∧ ((True) ∧ ((True) ∧ ((True) ∧ ((True) ∧ ((True) ∧ (True))))))))))))) ∧ ((True) ∧ (True)) := ⟨⟨trivial, ⟨trivial, ⟨trivial, ⟨F39_ok n ([0] : List UInt8) (IntKind.wrap .i64 ((bitsI .or .i64 (shlI .i64 (IntKind.wrap .i64 ((((command.getD 7 0).toNat : Nat) : Int))) (8 : Int)) (IntKind.wrap .i64 ((((command.getD 8 0).toNat : Nat) : Int)))) * (16 : Int))) y_4 hx13, ⟨F8_ok n d_Blocks d_Sense command y_4 y_5 hx14, ⟨trivial, ⟨trivial, ⟨trivial, ⟨trivial, ⟨trivial, ⟨trivial, ⟨trivial, trivial⟩⟩⟩⟩⟩⟩⟩⟩⟩⟩⟩⟩, ⟨trivial, trivial⟩⟩
        refine TS.draw 12 [(10, 2)] [.none, .none, .none, (.call (.str y_4) []), (.call (.tup (.cons (.st (.cons (.sl .str y_5.1) (.int .i64 y_5.2.1))) (.cons (.str y_5.2.2.1) (.cons (.int .i64 y_5.2.2.2) .nil)))) [])] (by kernel_rfl) ?_ ?_
        · apply prop_of ?_ hq
          kernel_rfl
        refine XS.then ?_
        refine TS.seq ?_
        rcases bif_some h with ⟨c15, h⟩ | ⟨c16, h⟩
        · have hq : (True) ∧ ((True) ∧ (((True) ∧ (y_5.2.2.2 == (0 : Int)) = true) ∧ ((True) ∧ ((True) ∧ ((True) ∧ (True)))))) := ⟨trivial, ⟨trivial, ⟨⟨trivial, c15⟩, ⟨trivial, ⟨trivial, ⟨trivial, trivial⟩⟩⟩⟩⟩⟩
          refine TS.reg [.none, .none, .dec true] ?_ ?_
          · apply prop_of ?_ hq
            kernel_rfl
          refine XS.then ?_
          rcases bif_some h with ⟨c17, h⟩ | ⟨c18, h⟩
          · refine TS.cond (decide ((IntKind.wrap .i64 ((bitsI .or .i64 (shlI .i64 (IntKind.wrap .i64 ((((command.getD 7 0).toNat : Nat) : Int))) (8 : Int)) (IntKind.wrap .i64 ((((command.getD 8 0).toNat : Nat) : Int)))) * (16 : Int))) > (0 : Int))) ?_ (fun hcz => ?_) (fun hcz => by rw [c17] at hcz; cases hcz)
            · kernel_rfl
            refine TS.seq ?_
            have hq : (True) ∧ (((True) ∧ ((True) ∧ (True))) ∧ ((True) ∧ (True))) := ⟨trivial, ⟨⟨trivial, ⟨trivial, trivial⟩⟩, ⟨trivial, trivial⟩⟩⟩
            refine TS.reg [] ?_ ?_
            · apply prop_of ?_ hq
              kernel_rfl
            refine XS.then ?_
            refine TS.ret ?_
            refine XS.passR ?_
            refine XS.passR ?_
            obtain rfl : ((2 : Int), (IntKind.wrap .i64 ((bitsI .or .i64 (shlI .i64 (IntKind.wrap .i64 ((((command.getD 7 0).toNat : Nat) : Int))) (8 : Int)) (IntKind.wrap .i64 ((((command.getD 8 0).toNat : Nat) : Int)))) * (16 : Int)))) = r := Option.some.inj h
            exact XS.fin [] ((True) ∧ (True)) (by kernel_rfl) ⟨trivial, trivial⟩
          · refine TS.cond (decide ((IntKind.wrap .i64 ((bitsI .or .i64 (shlI .i64 (IntKind.wrap .i64 ((((command.getD 7 0).toNat : Nat) : Int))) (8 : Int)) (IntKind.wrap .i64 ((((command.getD 8 0).toNat : Nat) : Int)))) * (16 : Int))) > (0 : Int))) ?_ (fun hcz => by rw [c18] at hcz; cases hcz) (fun hcz => ?_)
            · kernel_rfl
            refine TS.skip ?_
            refine XS.reAny [0, 1] (mkMask 63 [1, 2, 4]) () h ?_
            kernel_rfl
        · have hq : (True) ∧ ((True) ∧ (((True) ∧ (y_5.2.2.2 == (0 : Int)) = false) ∧ ((True) ∧ (True)))) := ⟨trivial, ⟨trivial, ⟨⟨trivial, c16⟩, ⟨trivial, trivial⟩⟩⟩⟩
          refine TS.reg [.none, .none, .dec false] ?_ ?_
          · apply prop_of ?_ hq
            kernel_rfl
          refine XS.then ?_
          refine TS.no ?_ ?_
          · kernel_rfl
          refine TS.skip ?_
          refine XS.reAny [0, 1] (mkMask 63 [1, 2, 4]) () h ?_
          kernel_rfl
      · refine TS.cond ((((command.getD 0 0).toNat : Nat) : Int) == (42 : Int)) ?_ (fun hcz => by rw [c10] at hcz; cases hcz) (fun hcz => ?_)
        · kernel_rfl
        refine TS.skip ?_
        refine XS.reAny [0, 1] (mkMask 63 [1, 2, 4]) () h ?_
        kernel_rfl
  · have hq : (True) ∧ ((True) ∧ ((True) ∧ (((True) ∧ (((command.length : Nat) : Int) == (10 : Int)) = false) ∧ ((True) ∧ (True))))) := ⟨trivial, ⟨trivial, ⟨trivial, ⟨⟨trivial, c2⟩, ⟨trivial, trivial⟩⟩⟩⟩⟩
    refine TS.reg [.none, .none, .none, .dec false] ?_ ?_
    · apply prop_of ?_ hq
      kernel_rfl
    refine XS.then ?_
    refine TS.no ?_ ?_
    · kernel_rfl
    refine TS.skip ?_
    refine XS.then ?_
    refine TS.seq ?_
    refine TS.seq ?_
    obtain ⟨y_6, hx19, h⟩ := bind_some' h
    have hq : (True) ∧ ((True) ∧ ((PureC Try.prog 8 [(.st (.cons (.sl .str d_Blocks) (.int .i64 d_Sense))), (.str command), (.str ([] : List UInt8))] (.tup (.cons (.st (.cons (.sl .str y_6.1) (.int .i64 y_6.2.1))) (.cons (.str y_6.2.2.1) (.cons (.int .i64 y_6.2.2.2) .nil)))) []) ∧ ((True) ∧ ((True) ∧ ((True) ∧ ((True) ∧ ((True) ∧ ((True) ∧ ((True) ∧ ((True) ∧ (True))))))))))) := ⟨trivial, ⟨trivial, ⟨F8_ok n d_Blocks d_Sense command ([] : List UInt8) y_6 hx19, ⟨trivial, ⟨trivial, ⟨trivial, ⟨trivial, ⟨trivial, ⟨trivial, ⟨trivial, ⟨trivial, trivial⟩⟩⟩⟩⟩⟩⟩⟩⟩⟩⟩
    refine TS.reg [.none, .none, (.call (.tup (.cons (.st (.cons (.sl .str y_6.1) (.int .i64 y_6.2.1))) (.cons (.str y_6.2.2.1) (.cons (.int .i64 y_6.2.2.2) .nil)))) [])] ?_ ?_
    · apply prop_of ?_ hq
      kernel_rfl
    refine XS.then ?_
    refine TS.seq ?_
    rcases bif_some h with ⟨c20, h⟩ | ⟨c21, h⟩
    · have hq : (True) ∧ ((True) ∧ (((True) ∧ (y_6.2.2.2 == (0 : Int)) = true) ∧ ((True) ∧ ((True) ∧ ((True) ∧ (True)))))) := ⟨trivial, ⟨trivial, ⟨⟨trivial, c20⟩, ⟨trivial, ⟨trivial, ⟨trivial, trivial⟩⟩⟩⟩⟩⟩
      refine TS.reg [.none, .none, .dec true] ?_ ?_
      · apply prop_of ?_ hq
        kernel_rfl
      refine XS.then ?_
      rcases bif_some h with ⟨c22, h⟩ | ⟨c23, h⟩
      · refine TS.cond (!(y_6.2.2.1 == ([] : List UInt8))) ?_ (fun hcz => ?_) (fun hcz => by rw [c22] at hcz; cases hcz)
        · kernel_rfl
        refine TS.seq ?_
        have hq : (True) ∧ ((True) ∧ (((True) ∧ ((True) ∧ (True))) ∧ ((True) ∧ (True)))) := ⟨trivial, ⟨trivial, ⟨⟨trivial, ⟨trivial, trivial⟩⟩, ⟨trivial, trivial⟩⟩⟩⟩
        refine TS.reg [] ?_ ?_
        · apply prop_of ?_ hq
          kernel_rfl
        refine XS.then ?_
        refine TS.ret ?_
        refine XS.passR ?_
        obtain rfl : ((1 : Int), ((y_6.2.2.1.length : Nat) : Int)) = r := Option.some.inj h
        exact XS.fin [] ((True) ∧ (True)) (by kernel_rfl) ⟨trivial, trivial⟩
      · refine TS.cond (!(y_6.2.2.1 == ([] : List UInt8))) ?_ (fun hcz => by rw [c23] at hcz; cases hcz) (fun hcz => ?_)
        · kernel_rfl
        refine TS.skip ?_
        refine XS.then ?_
        refine TS.seq ?_
        have hq : (True) ∧ ((True) ∧ (True)) := ⟨trivial, ⟨trivial, trivial⟩⟩
        refine TS.reg [] ?_ ?_
        · apply prop_of ?_ hq
          kernel_rfl
        refine XS.then ?_
        refine TS.ret ?_
        obtain rfl : ((0 : Int), (0 : Int)) = r := Option.some.inj h
        exact XS.fin [] ((True) ∧ (True)) (by kernel_rfl) ⟨trivial, trivial⟩
    · have hq : (True) ∧ ((True) ∧ (((True) ∧ (y_6.2.2.2 == (0 : Int)) = false) ∧ ((True) ∧ (True)))) := ⟨trivial, ⟨trivial, ⟨⟨trivial, c21⟩, ⟨trivial, trivial⟩⟩⟩⟩
      refine TS.reg [.none, .none, .dec false] ?_ ?_
      · apply prop_of ?_ hq
        kernel_rfl
      refine XS.then ?_
      refine TS.no ?_ ?_
      · kernel_rfl
      refine TS.skip ?_
      refine XS.then ?_
      refine TS.seq ?_
      have hq : (True) ∧ ((True) ∧ (True)) := ⟨trivial, ⟨trivial, trivial⟩⟩
      refine TS.reg [] ?_ ?_
      · apply prop_of ?_ hq
        kernel_rfl
      refine XS.then ?_
      refine TS.ret ?_
      obtain rfl : ((0 : Int), (0 : Int)) = r := Option.some.inj h
      exact XS.fin [] ((True) ∧ (True)) (by kernel_rfl) ⟨trivial, trivial⟩

/-! plugtree/bulk.transfer -/
def F63 (n : Nat) (m_Dir : Int) (m_Len : Int) : Option Bool := (bif (m_Dir == (0 : Int)) then (some (m_Len == (0 : Int))) else (bif (m_Dir == (1 : Int)) then (bif (decide (m_Len ≥ (1 : Int))) then ((F64 n m_Len).bind fun y_2 => (some y_2)) else (some false)) else (bif (m_Dir == (2 : Int)) then (bif (decide (m_Len ≥ (1 : Int))) then ((F64 n m_Len).bind fun y_3 => (some y_3)) else (some false)) else (some false))))
theorem F63_ok (n : Nat) (m_Dir : Int) (m_Len : Int) (r : Bool) (h : F63 n m_Dir m_Len = some r) : PureC Try.prog 63 [(.st (.cons (.int .i64 m_Dir) (.int .i64 m_Len)))] (.bool r) [] := by
  refine PureC.mkS Try.func63 rfl rfl ?_
  intro w0 fz0 hfz
  replace h : (bif (m_Dir == (0 : Int)) then (some (m_Len == (0 : Int))) else (bif (m_Dir == (1 : Int)) then (bif (decide (m_Len ≥ (1 : Int))) then ((F64 n m_Len).bind fun y_2 => (some y_2)) else (some false)) else (bif (m_Dir == (2 : Int)) then (bif (decide (m_Len ≥ (1 : Int))) then ((F64 n m_Len).bind fun y_3 => (some y_3)) else (some false)) else (some false)))) = some r := h
  refine TS.seq ?_
  have hq : (True) ∧ ((True) ∧ (True)) := ⟨trivial, ⟨trivial, trivial⟩⟩
  refine TS.reg [] ?_ ?_
  · apply prop_of ?_ hq
    kernel_rfl
  refine XS.then ?_
  refine TS.seq ?_
  refine TS.seq ?_
  have hq : (True) ∧ ((True) ∧ ((True) ∧ (True))) := ⟨trivial, ⟨trivial, ⟨trivial, trivial⟩⟩⟩
  refine TS.reg [] ?_ ?_
  · apply prop_of ?_ hq
    kernel_rfl
  refine XS.then ?_
  rcases bif_some h with ⟨c1, h⟩ | ⟨c2, h⟩
  · refine TS.cond (m_Dir == (0 : Int)) ?_ (fun hcz => ?_) (fun hcz => by rw [c1] at hcz; cases hcz)
    · kernel_rfl
    refine TS.seq ?_
    have hq : (True) ∧ ((True) ∧ ((True) ∧ ((True) ∧ (True)))) := ⟨trivial, ⟨trivial, ⟨trivial, ⟨trivial, trivial⟩⟩⟩⟩
    refine TS.reg [] ?_ ?_
    · apply prop_of ?_ hq
      kernel_rfl
    refine XS.then ?_
    refine TS.ret ?_
    refine XS.passR ?_
    obtain rfl : (m_Len == (0 : Int)) = r := Option.some.inj h
    exact XS.fin [] ((True) ∧ (True)) (by kernel_rfl) ⟨trivial, trivial⟩
  · refine TS.cond (m_Dir == (0 : Int)) ?_ (fun hcz => by rw [c2] at hcz; cases hcz) (fun hcz => ?_)
    · kernel_rfl
    refine TS.skip ?_
    refine XS.then ?_
    refine TS.seq ?_
    rcases bif_some h with ⟨c3, h⟩ | ⟨c4, h⟩
    · rcases bif_some h with ⟨c5, h⟩ | ⟨c6, h⟩
      · obtain ⟨y_2, hx7, h⟩ := bind_some' h
        have hq : (True) ∧ ((True) ∧ ((True) ∧ (((True) ∧ (m_Dir == (1 : Int)) = true) ∧ ((True) ∧ ((True) ∧ ((True) ∧ ((True) ∧ ((True) ∧ ((True) ∧ (((True) ∧ (decide (m_Len ≥ (1 : Int))) = true) ∧ ((True) ∧ ((True) ∧ ((PureC Try.prog 64 [(.int .i64 m_Len)] (.bool y_2) []) ∧ ((True) ∧ ((True) ∧ (True)))))))))))))))) := ⟨trivial, ⟨trivial, ⟨trivial, ⟨⟨trivial, c3⟩, ⟨trivial, ⟨trivial, ⟨trivial, ⟨trivial, ⟨trivial, ⟨trivial, ⟨⟨trivial, c5⟩, ⟨trivial, ⟨trivial, ⟨F64_ok n m_Len y_2 hx7, ⟨trivial, ⟨trivial, trivial⟩⟩⟩⟩⟩⟩⟩⟩⟩⟩⟩⟩⟩⟩⟩⟩
        refine TS.reg [.none, .none, .none, .dec true, .none, .none, .none, .none, .none, .none, .none, .none, .none, .dec true, .none, .none, (.call (.bool y_2) [])] ?_ ?_
        · apply prop_of ?_ hq
          kernel_rfl
        refine XS.then ?_
        refine TS.ret ?_
        obtain rfl : y_2 = r := Option.some.inj h
        exact XS.fin [] ((True) ∧ (True)) (by kernel_rfl) ⟨trivial, trivial⟩
      · have hq : (True) ∧ ((True) ∧ ((True) ∧ (((True) ∧ (m_Dir == (1 : Int)) = true) ∧ ((True) ∧ ((True) ∧ ((True) ∧ ((True) ∧ ((True) ∧ ((True) ∧ (((True) ∧ (decide (m_Len ≥ (1 : Int))) = false) ∧ ((True) ∧ ((True) ∧ (True))))))))))))) := ⟨trivial, ⟨trivial, ⟨trivial, ⟨⟨trivial, c3⟩, ⟨trivial, ⟨trivial, ⟨trivial, ⟨trivial, ⟨trivial, ⟨trivial, ⟨⟨trivial, c6⟩, ⟨trivial, ⟨trivial, trivial⟩⟩⟩⟩⟩⟩⟩⟩⟩⟩⟩⟩⟩
        refine TS.reg [.none, .none, .none, .dec true, .none, .none, .none, .none, .none, .none, .none, .none, .none, .dec false] ?_ ?_
        · apply prop_of ?_ hq
          kernel_rfl
        refine XS.then ?_
        refine TS.ret ?_
        obtain rfl : false = r := Option.some.inj h
        exact XS.fin [] ((True) ∧ (True)) (by kernel_rfl) ⟨trivial, trivial⟩
    · rcases bif_some h with ⟨c8, h⟩ | ⟨c9, h⟩
      · rcases bif_some h with ⟨c10, h⟩ | ⟨c11, h⟩
        · obtain ⟨y_3, hx12, h⟩ := bind_some' h
          have hq : (True) ∧ ((True) ∧ ((True) ∧ (((True) ∧ (m_Dir == (1 : Int)) = false) ∧ ((True) ∧ ((True) ∧ ((True) ∧ ((True) ∧ (((True) ∧ (m_Dir == (2 : Int)) = true) ∧ ((True) ∧ ((True) ∧ ((True) ∧ ((True) ∧ (((True) ∧ (decide (m_Len ≥ (1 : Int))) = true) ∧ ((True) ∧ ((True) ∧ ((PureC Try.prog 64 [(.int .i64 m_Len)] (.bool y_3) []) ∧ ((True) ∧ ((True) ∧ (True))))))))))))))))))) := ⟨trivial, ⟨trivial, ⟨trivial, ⟨⟨trivial, c4⟩, ⟨trivial, ⟨trivial, ⟨trivial, ⟨trivial, ⟨⟨trivial, c8⟩, ⟨trivial, ⟨trivial, ⟨trivial, ⟨trivial, ⟨⟨trivial, c10⟩, ⟨trivial, ⟨trivial, ⟨F64_ok n m_Len y_3 hx12, ⟨trivial, ⟨trivial, trivial⟩⟩⟩⟩⟩⟩⟩⟩⟩⟩⟩⟩⟩⟩⟩⟩⟩⟩⟩
          refine TS.reg [.none, .none, .none, .dec false, .none, .none, .none, .none, .dec true, .none, .none, .none, .none, .dec true, .none, .none, (.call (.bool y_3) [])] ?_ ?_
          · apply prop_of ?_ hq
            kernel_rfl
          refine XS.then ?_
          refine TS.ret ?_
          obtain rfl : y_3 = r := Option.some.inj h
          exact XS.fin [] ((True) ∧ (True)) (by kernel_rfl) ⟨trivial, trivial⟩
        · have hq : (True) ∧ ((True) ∧ ((True) ∧ (((True) ∧ (m_Dir == (1 : Int)) = false) ∧ ((True) ∧ ((True) ∧ ((True) ∧ ((True) ∧ (((True) ∧ (m_Dir == (2 : Int)) = true) ∧ ((True) ∧ ((True) ∧ ((True) ∧ ((True) ∧ (((True) ∧ (decide (m_Len ≥ (1 : Int))) = false) ∧ ((True) ∧ ((True) ∧ (True)))))))))))))))) := ⟨trivial, ⟨trivial, ⟨trivial, ⟨⟨trivial, c4⟩, ⟨trivial, ⟨trivial, ⟨trivial, ⟨trivial, ⟨⟨trivial, c8⟩, ⟨trivial, ⟨trivial, ⟨trivial, ⟨trivial, ⟨⟨trivial, c11⟩, ⟨trivial, ⟨trivial, trivial⟩⟩⟩⟩⟩⟩⟩⟩⟩⟩⟩⟩⟩⟩⟩⟩
          refine TS.reg [.none, .none, .none, .dec false, .none, .none, .none, .none, .dec true, .none, .none, .none, .none, .dec false] ?_ ?_
          · apply prop_of ?_ hq
            kernel_rfl
          refine XS.then ?_
          refine TS.ret ?_
          obtain rfl : false = r := Option.some.inj h
          exact XS.fin [] ((True) ∧ (True)) (by kernel_rfl) ⟨trivial, trivial⟩
      · have hq : (True) ∧ ((True) ∧ ((True) ∧ (((True) ∧ (m_Dir == (1 : Int)) = false) ∧ ((True) ∧ ((True) ∧ ((True) ∧ ((True) ∧ (((True) ∧ (m_Dir == (2 : Int)) = false) ∧ ((True) ∧ ((True) ∧ ((True) ∧ ((True) ∧ (True))))))))))))) := ⟨trivial, ⟨trivial, ⟨trivial, ⟨⟨trivial, c4⟩, ⟨trivial, ⟨trivial, ⟨trivial, ⟨trivial, ⟨⟨trivial, c9⟩, ⟨trivial, ⟨trivial, ⟨trivial, ⟨trivial, trivial⟩⟩⟩⟩⟩⟩⟩⟩⟩⟩⟩⟩⟩
        refine TS.reg [.none, .none, .none, .dec false, .none, .none, .none, .none, .dec false] ?_ ?_
        · apply prop_of ?_ hq
          kernel_rfl
        refine XS.then ?_
        refine TS.ret ?_
        obtain rfl : false = r := Option.some.inj h
        exact XS.fin [] ((True) ∧ (True)) (by kernel_rfl) ⟨trivial, trivial⟩

/-! plugtree/bulk.Judge -/
def F30_j19 (n : Nat) (host_Len : Int) (m2 : Int) : (Int × Int) → Option (Int × Int × Int × Int × Int)
  | (m2_2, m2_3) => (some (m2, m2_2, (IntKind.wrap .i64 (host_Len - m2_2)), m2_3, (0 : Int)))
def F30_j20 (n : Nat) (host_Len : Int) (device_Len : Int) (m2 : Int) : Bool → Option (Int × Int × Int × Int × Int)
  | x => (bif x then (F30_j19 n host_Len m2 ((0 : Int), (2 : Int))) else (F30_j19 n host_Len m2 ((if device_Len < host_Len then device_Len else host_Len), (0 : Int))))
def F30_j17 (n : Nat) (host_Len : Int) (device_Len : Int) : Int → Option (Int × Int × Int × Int × Int)
  | m2 => (bif (m2 == (2 : Int)) then (F30_j20 n host_Len device_Len m2 (m2 == (2 : Int))) else (bif (m2 == (3 : Int)) then (F30_j20 n host_Len device_Len m2 (m2 == (3 : Int))) else (bif (m2 == (7 : Int)) then (F30_j20 n host_Len device_Len m2 (m2 == (7 : Int))) else (bif (m2 == (8 : Int)) then (F30_j20 n host_Len device_Len m2 (m2 == (8 : Int))) else (bif (m2 == (10 : Int)) then (F30_j20 n host_Len device_Len m2 (m2 == (10 : Int))) else (F30_j20 n host_Len device_Len m2 (m2 == (13 : Int))))))))
def F30_j21 (n : Nat) (host_Len : Int) (device_Len : Int) : Int → Option (Int × Int × Int × Int × Int)
  | m3 => (bif (decide (host_Len < device_Len)) then (F30_j17 n host_Len device_Len (IntKind.wrap .i64 (m3 + (2 : Int)))) else (F30_j17 n host_Len device_Len m3))
def F30_j22 (n : Nat) (host_Len : Int) (device_Len : Int) : Int → Option (Int × Int × Int × Int × Int)
  | m3_2 => (bif (decide (host_Len < device_Len)) then (F30_j17 n host_Len device_Len (IntKind.wrap .i64 (m3_2 + (2 : Int)))) else (F30_j17 n host_Len device_Len m3_2))
def F30_j23 (n : Nat) (host_Len : Int) (device_Len : Int) : Int → Option (Int × Int × Int × Int × Int)
  | m3_3 => (bif (decide (host_Len < device_Len)) then (F30_j17 n host_Len device_Len (IntKind.wrap .i64 (m3_3 + (2 : Int)))) else (F30_j17 n host_Len device_Len m3_3))
def F30_j24 (n : Nat) (host_Len : Int) (device_Len : Int) : Int → Option (Int × Int × Int × Int × Int)
  | m3_4 => (bif (decide (host_Len < device_Len)) then (F30_j17 n host_Len device_Len (IntKind.wrap .i64 (m3_4 + (2 : Int)))) else (F30_j17 n host_Len device_Len m3_4))
def F30 (n : Nat) (host_Dir : Int) (host_Len : Int) (device_Dir : Int) (device_Len : Int) : Option (Int × Int × Int × Int × Int) := ((F63 n host_Dir host_Len).bind fun y_6 => (bif (!y_6) then (some ((0 : Int), (0 : Int), (0 : Int), (0 : Int), (1 : Int))) else ((F63 n device_Dir device_Len).bind fun y_7 => (bif (!y_7) then (some ((0 : Int), (0 : Int), (0 : Int), (0 : Int), (1 : Int))) else (bif (host_Dir == (0 : Int)) then (F30_j17 n host_Len device_Len (IntKind.wrap .i64 ((1 : Int) + device_Dir))) else (bif (device_Dir == (0 : Int)) then (F30_j17 n host_Len device_Len (IntKind.wrap .i64 ((4 : Int) + (IntKind.wrap .i64 ((5 : Int) * (IntKind.wrap .i64 (host_Dir - (1 : Int)))))))) else (bif (host_Dir == (1 : Int)) then (bif (device_Dir == (2 : Int)) then (F30_j17 n host_Len device_Len (8 : Int)) else (bif (host_Dir == (2 : Int)) then (bif (device_Dir == (1 : Int)) then (F30_j17 n host_Len device_Len (10 : Int)) else (bif (host_Len == device_Len) then (F30_j21 n host_Len device_Len (IntKind.wrap .i64 ((IntKind.wrap .i64 ((5 : Int) + (IntKind.wrap .i64 ((6 : Int) * (IntKind.wrap .i64 (host_Dir - (1 : Int))))))) + (1 : Int)))) else (F30_j21 n host_Len device_Len (IntKind.wrap .i64 ((5 : Int) + (IntKind.wrap .i64 ((6 : Int) * (IntKind.wrap .i64 (host_Dir - (1 : Int)))))))))) else (bif (host_Len == device_Len) then (F30_j22 n host_Len device_Len (IntKind.wrap .i64 ((IntKind.wrap .i64 ((5 : Int) + (IntKind.wrap .i64 ((6 : Int) * (IntKind.wrap .i64 (host_Dir - (1 : Int))))))) + (1 : Int)))) else (F30_j22 n host_Len device_Len (IntKind.wrap .i64 ((5 : Int) + (IntKind.wrap .i64 ((6 : Int) * (IntKind.wrap .i64 (host_Dir - (1 : Int))))))))))) else (bif (host_Dir == (2 : Int)) then (bif (device_Dir == (1 : Int)) then (F30_j17 n host_Len device_Len (10 : Int)) else (bif (host_Len == device_Len) then (F30_j23 n host_Len device_Len (IntKind.wrap .i64 ((IntKind.wrap .i64 ((5 : Int) + (IntKind.wrap .i64 ((6 : Int) * (IntKind.wrap .i64 (host_Dir - (1 : Int))))))) + (1 : Int)))) else (F30_j23 n host_Len device_Len (IntKind.wrap .i64 ((5 : Int) + (IntKind.wrap .i64 ((6 : Int) * (IntKind.wrap .i64 (host_Dir - (1 : Int)))))))))) else (bif (host_Len == device_Len) then (F30_j24 n host_Len device_Len (IntKind.wrap .i64 ((IntKind.wrap .i64 ((5 : Int) + (IntKind.wrap .i64 ((6 : Int) * (IntKind.wrap .i64 (host_Dir - (1 : Int))))))) + (1 : Int)))) else (F30_j24 n host_Len device_Len (IntKind.wrap .i64 ((5 : Int) + (IntKind.wrap .i64 ((6 : Int) * (IntKind.wrap .i64 (host_Dir - (1 : Int)))))))))))))))))
theorem F30_ok (n : Nat) (host_Dir : Int) (host_Len : Int) (device_Dir : Int) (device_Len : Int) (r : Int × Int × Int × Int × Int) (h : F30 n host_Dir host_Len device_Dir device_Len = some r) : PureC Try.prog 30 [(.st (.cons (.int .i64 host_Dir) (.int .i64 host_Len))), (.st (.cons (.int .i64 device_Dir) (.int .i64 device_Len)))] (.tup (.cons (.st (.cons (.int .i64 r.1) (.cons (.int .i64 r.2.1) (.cons (.int .i64 r.2.2.1) (.int .i64 r.2.2.2.1))))) (.cons (.int .i64 r.2.2.2.2) .nil))) [] := by
  refine PureC.mkS Try.func30 rfl rfl ?_
  intro w0 fz0 hfz
  replace h : ((F63 n host_Dir host_Len).bind fun y_6 => (bif (!y_6) then (some ((0 : Int), (0 : Int), (0 : Int), (0 : Int), (1 : Int))) else ((F63 n device_Dir device_Len).bind fun y_7 => (bif (!y_7) then (some ((0 : Int), (0 : Int), (0 : Int), (0 : Int), (1 : Int))) else (bif (host_Dir == (0 : Int)) then (F30_j17 n host_Len device_Len (IntKind.wrap .i64 ((1 : Int) + device_Dir))) else (bif (device_Dir == (0 : Int)) then (F30_j17 n host_Len device_Len (IntKind.wrap .i64 ((4 : Int) + (IntKind.wrap .i64 ((5 : Int) * (IntKind.wrap .i64 (host_Dir - (1 : Int)))))))) else (bif (host_Dir == (1 : Int)) then (bif (device_Dir == (2 : Int)) then (F30_j17 n host_Len device_Len (8 : Int)) else (bif (host_Dir == (2 : Int)) then (bif (device_Dir == (1 : Int)) then (F30_j17 n host_Len device_Len (10 : Int)) else (bif (host_Len == device_Len) then (F30_j21 n host_Len device_Len (IntKind.wrap .i64 ((IntKind.wrap .i64 ((5 : Int) + (IntKind.wrap .i64 ((6 : Int) * (IntKind.wrap .i64 (host_Dir - (1 : Int))))))) + (1 : Int)))) else (F30_j21 n host_Len device_Len (IntKind.wrap .i64 ((5 : Int) + (IntKind.wrap .i64 ((6 : Int) * (IntKind.wrap .i64 (host_Dir - (1 : Int)))))))))) else (bif (host_Len == device_Len) then (F30_j22 n host_Len device_Len (IntKind.wrap .i64 ((IntKind.wrap .i64 ((5 : Int) + (IntKind.wrap .i64 ((6 : Int) * (IntKind.wrap .i64 (host_Dir - (1 : Int))))))) + (1 : Int)))) else (F30_j22 n host_Len device_Len (IntKind.wrap .i64 ((5 : Int) + (IntKind.wrap .i64 ((6 : Int) * (IntKind.wrap .i64 (host_Dir - (1 : Int))))))))))) else (bif (host_Dir == (2 : Int)) then (bif (device_Dir == (1 : Int)) then (F30_j17 n host_Len device_Len (10 : Int)) else (bif (host_Len == device_Len) then (F30_j23 n host_Len device_Len (IntKind.wrap .i64 ((IntKind.wrap .i64 ((5 : Int) + (IntKind.wrap .i64 ((6 : Int) * (IntKind.wrap .i64 (host_Dir - (1 : Int))))))) + (1 : Int)))) else (F30_j23 n host_Len device_Len (IntKind.wrap .i64 ((5 : Int) + (IntKind.wrap .i64 ((6 : Int) * (IntKind.wrap .i64 (host_Dir - (1 : Int)))))))))) else (bif (host_Len == device_Len) then (F30_j24 n host_Len device_Len (IntKind.wrap .i64 ((IntKind.wrap .i64 ((5 : Int) + (IntKind.wrap .i64 ((6 : Int) * (IntKind.wrap .i64 (host_Dir - (1 : Int))))))) + (1 : Int)))) else (F30_j24 n host_Len device_Len (IntKind.wrap .i64 ((5 : Int) + (IntKind.wrap .i64 ((6 : Int) * (IntKind.wrap .i64 (host_Dir - (1 : Int))))))))))))))))) = some r := h
  refine TS.seq ?_
  have hq : (True) ∧ ((True) ∧ ((True) ∧ ((True) ∧ (True)))) := ⟨trivial, ⟨trivial, ⟨trivial, ⟨trivial, trivial⟩⟩⟩⟩
  refine TS.reg [] ?_ ?_
  · apply prop_of ?_ hq
    kernel_rfl
  refine XS.then ?_
  refine TS.seq ?_
  refine TS.seq ?_
  obtain ⟨y_6, hx1, h⟩ := bind_some' h
  rcases bif_some h with ⟨c2, h⟩ | ⟨c3, h⟩
  · have hq : (True) ∧ ((PureC Try.prog 63 [(.st (.cons (.int .i64 host_Dir) (.int .i64 host_Len)))] (.bool y_6) []) ∧ ((True) ∧ (((True) ∧ (!y_6) = true) ∧ ((True) ∧ (True))))) := ⟨trivial, ⟨F63_ok n host_Dir host_Len y_6 hx1, ⟨trivial, ⟨⟨trivial, c2⟩, ⟨trivial, trivial⟩⟩⟩⟩⟩
    refine TS.reg [.none, (.call (.bool y_6) []), .none, .dec true] ?_ ?_
    · apply prop_of ?_ hq
      kernel_rfl
    refine XS.then ?_
    refine TS.yes ?_ ?_
    · kernel_rfl
    refine TS.seq ?_
    have hq : (True) ∧ ((True) ∧ ((True) ∧ (True))) := ⟨trivial, ⟨trivial, ⟨trivial, trivial⟩⟩⟩
    refine TS.reg [] ?_ ?_
    · apply prop_of ?_ hq
      kernel_rfl
    refine XS.then ?_
    refine TS.ret ?_
    refine XS.passR ?_
    obtain rfl : ((0 : Int), (0 : Int), (0 : Int), (0 : Int), (1 : Int)) = r := Option.some.inj h
    exact XS.fin [] ((True) ∧ ((True) ∧ (True))) (by kernel_rfl) ⟨trivial, ⟨trivial, trivial⟩⟩
  · obtain ⟨y_7, hx4, h⟩ := bind_some' h
    have hq : (True) ∧ ((PureC Try.prog 63 [(.st (.cons (.int .i64 host_Dir) (.int .i64 host_Len)))] (.bool y_6) []) ∧ ((True) ∧ (((True) ∧ (!y_6) = false) ∧ ((True) ∧ ((PureC Try.prog 63 [(.st (.cons (.int .i64 device_Dir) (.int .i64 device_Len)))] (.bool y_7) []) ∧ ((True) ∧ ((True) ∧ (True)))))))) := ⟨trivial, ⟨F63_ok n host_Dir host_Len y_6 hx1, ⟨trivial, ⟨⟨trivial, c3⟩, ⟨trivial, ⟨F63_ok n device_Dir device_Len y_7 hx4, ⟨trivial, ⟨trivial, trivial⟩⟩⟩⟩⟩⟩⟩⟩
    refine TS.reg [.none, (.call (.bool y_6) []), .none, .dec false, .none, (.call (.bool y_7) [])] ?_ ?_
    · apply prop_of ?_ hq
      kernel_rfl
    refine XS.then ?_
    rcases bif_some h with ⟨c5, h⟩ | ⟨c6, h⟩
    · refine TS.cond (!y_7) ?_ (fun hcz => ?_) (fun hcz => by rw [c5] at hcz; cases hcz)
      · kernel_rfl
      refine TS.seq ?_
      have hq : (True) ∧ ((True) ∧ ((True) ∧ (True))) := ⟨trivial, ⟨trivial, ⟨trivial, trivial⟩⟩⟩
      refine TS.reg [] ?_ ?_
      · apply prop_of ?_ hq
        kernel_rfl
      refine XS.then ?_
      refine TS.ret ?_
      refine XS.passR ?_
      obtain rfl : ((0 : Int), (0 : Int), (0 : Int), (0 : Int), (1 : Int)) = r := Option.some.inj h
      exact XS.fin [] ((True) ∧ ((True) ∧ (True))) (by kernel_rfl) ⟨trivial, ⟨trivial, trivial⟩⟩
    · refine TS.cond (!y_7) ?_ (fun hcz => by rw [c6] at hcz; cases hcz) (fun hcz => ?_)
      · kernel_rfl
      refine TS.skip ?_
      refine XS.then ?_
      refine TS.seq ?_
      have hq : (True) ∧ ((True) ∧ ((True) ∧ ((True) ∧ ((True) ∧ (((True) ∧ (True)) ∧ ((True) ∧ ((True) ∧ (True)))))))) := ⟨trivial, ⟨trivial, ⟨trivial, ⟨trivial, ⟨trivial, ⟨⟨trivial, trivial⟩, ⟨trivial, ⟨trivial, trivial⟩⟩⟩⟩⟩⟩⟩⟩
      refine TS.reg [] ?_ ?_
      · apply prop_of ?_ hq
        kernel_rfl
      refine XS.then ?_
      refine TS.seq ?_
      refine TS.cut (D := Int) (fun d => match d with | m2 => (mkTs 102 [(2, (.ptr 0 [])), (4, (.ptr 1 [])), (6, (.ptr 2 []))], [(.box 70 (.st (.cons (.int .i64 host_Dir) (.int .i64 host_Len)))), (.box 72 (.st (.cons (.int .i64 (0 : Int)) (.cons (.int .i64 (0 : Int)) (.cons (.int .i64 (0 : Int)) (.int .i64 (0 : Int))))))), (.box 72 (.st (.cons (.int .i64 m2) (.cons (.int .i64 (if device_Len < host_Len then device_Len else host_Len)) (.cons (.int .i64 (0 : Int)) (.int .i64 (0 : Int)))))))])) (fun d => F30_j17 n host_Len device_Len d = some r) ?_ ?_
      · rintro m2 h
        replace h : (bif (m2 == (2 : Int)) then (F30_j20 n host_Len device_Len m2 (m2 == (2 : Int))) else (bif (m2 == (3 : Int)) then (F30_j20 n host_Len device_Len m2 (m2 == (3 : Int))) else (bif (m2 == (7 : Int)) then (F30_j20 n host_Len device_Len m2 (m2 == (7 : Int))) else (bif (m2 == (8 : Int)) then (F30_j20 n host_Len device_Len m2 (m2 == (8 : Int))) else (bif (m2 == (10 : Int)) then (F30_j20 n host_Len device_Len m2 (m2 == (10 : Int))) else (F30_j20 n host_Len device_Len m2 (m2 == (13 : Int)))))))) = some r := h
        refine XS.then ?_
        refine TS.seq ?_
        refine TS.seq ?_
        have hq : (True) ∧ ((True) ∧ (True)) := ⟨trivial, ⟨trivial, trivial⟩⟩
        refine TS.reg [] ?_ ?_
        · apply prop_of ?_ hq
          kernel_rfl
        refine XS.then ?_
        refine TS.cut (D := Int × Int) (fun d => match d with | (m2_2, m2_3) => (mkTs 102 [(2, (.ptr 0 [])), (4, (.ptr 1 [])), (6, (.ptr 2 []))], [(.box 70 (.st (.cons (.int .i64 host_Dir) (.int .i64 host_Len)))), (.box 72 (.st (.cons (.int .i64 (0 : Int)) (.cons (.int .i64 (0 : Int)) (.cons (.int .i64 (0 : Int)) (.int .i64 (0 : Int))))))), (.box 72 (.st (.cons (.int .i64 m2) (.cons (.int .i64 m2_2) (.cons (.int .i64 (0 : Int)) (.int .i64 m2_3))))))])) (fun d => F30_j19 n host_Len m2 d = some r) ?_ ?_
        · rintro ⟨m2_2, m2_3⟩ h
          replace h : (some (m2, m2_2, (IntKind.wrap .i64 (host_Len - m2_2)), m2_3, (0 : Int))) = some r := h
          refine XS.then ?_
          refine TS.seq ?_
          have hq : (True) ∧ ((True) ∧ ((True) ∧ ((True) ∧ ((True) ∧ ((True) ∧ ((True) ∧ (True))))))) := ⟨trivial, ⟨trivial, ⟨trivial, ⟨trivial, ⟨trivial, ⟨trivial, ⟨trivial, trivial⟩⟩⟩⟩⟩⟩⟩
          refine TS.reg [] ?_ ?_
          · apply prop_of ?_ hq
            kernel_rfl
          refine XS.then ?_
          refine TS.seq ?_
          have hq : (True) ∧ ((True) ∧ ((True) ∧ (True))) := ⟨trivial, ⟨trivial, ⟨trivial, trivial⟩⟩⟩
          refine TS.reg [] ?_ ?_
          · apply prop_of ?_ hq
            kernel_rfl
          refine XS.then ?_
          refine TS.ret ?_
          obtain rfl : (m2, m2_2, (IntKind.wrap .i64 (host_Len - m2_2)), m2_3, (0 : Int)) = r := Option.some.inj h
          exact XS.fin [] ((True) ∧ ((True) ∧ (True))) (by kernel_rfl) ⟨trivial, ⟨trivial, trivial⟩⟩
        · refine TS.block ?_
          refine TS.seq ?_
          refine TS.seq ?_
          have hq : (True) ∧ ((True) ∧ (True)) := ⟨trivial, ⟨trivial, trivial⟩⟩
          refine TS.reg [] ?_ ?_
          · apply prop_of ?_ hq
            kernel_rfl
          refine XS.then ?_
          refine TS.cut (D := Bool) (fun d => match d with | x => (mkTs 102 [(2, (.ptr 0 [])), (4, (.ptr 1 [])), (6, (.ptr 2 [])), (86, (.bool x))], [(.box 70 (.st (.cons (.int .i64 host_Dir) (.int .i64 host_Len)))), (.box 72 (.st (.cons (.int .i64 (0 : Int)) (.cons (.int .i64 (0 : Int)) (.cons (.int .i64 (0 : Int)) (.int .i64 (0 : Int))))))), (.box 72 (.st (.cons (.int .i64 m2) (.cons (.int .i64 (if device_Len < host_Len then device_Len else host_Len)) (.cons (.int .i64 (0 : Int)) (.int .i64 (0 : Int)))))))])) (fun d => F30_j20 n host_Len device_Len m2 d = some r) ?_ ?_
          · rintro x h
            replace h : (bif x then (F30_j19 n host_Len m2 ((0 : Int), (2 : Int))) else (F30_j19 n host_Len m2 ((if device_Len < host_Len then device_Len else host_Len), (0 : Int)))) = some r := h
            refine XS.then ?_
            rcases bif_some h with ⟨c7, h⟩ | ⟨c8, h⟩
            · refine TS.cond x ?_ (fun hcz => ?_) (fun hcz => by rw [c7] at hcz; cases hcz)
              · kernel_rfl
              have hq : (True) ∧ ((True) ∧ ((True) ∧ ((True) ∧ (True)))) := ⟨trivial, ⟨trivial, ⟨trivial, ⟨trivial, trivial⟩⟩⟩⟩
              refine TS.reg [] ?_ ?_
              · apply prop_of ?_ hq
                kernel_rfl
              refine XS.blockEnd ?_
              refine XS.reAny [0, 1, 2] (mkMask 102 [2, 4, 6]) ((0 : Int), (2 : Int)) h ?_
              kernel_rfl
            · refine TS.cond x ?_ (fun hcz => by rw [c8] at hcz; cases hcz) (fun hcz => ?_)
              · kernel_rfl
              refine TS.skip ?_
              refine XS.blockEnd ?_
              refine XS.reAny [0, 1, 2] (mkMask 102 [2, 4, 6]) ((if device_Len < host_Len then device_Len else host_Len), (0 : Int)) h ?_
              kernel_rfl
          · rcases bif_some h with ⟨c9, h⟩ | ⟨c10, h⟩
            · refine TS.cond (m2 == (2 : Int)) ?_ (fun hcz => ?_) (fun hcz => by rw [c9] at hcz; cases hcz)
              · kernel_rfl
              refine TS.skip ?_
              refine XS.reAny [0, 1, 2] (mkMask 102 [2, 4, 6, 86]) (m2 == (2 : Int)) h ?_
              kernel_rfl
            · refine TS.cond (m2 == (2 : Int)) ?_ (fun hcz => by rw [c10] at hcz; cases hcz) (fun hcz => ?_)
              · kernel_rfl
              refine TS.seq ?_
              have hq : (True) ∧ ((True) ∧ (True)) := ⟨trivial, ⟨trivial, trivial⟩⟩
              refine TS.reg [] ?_ ?_
              · apply prop_of ?_ hq
                kernel_rfl
              refine XS.then ?_
              rcases bif_some h with ⟨c11, h⟩ | ⟨c12, h⟩
              · refine TS.cond (m2 == (3 : Int)) ?_ (fun hcz => ?_) (fun hcz => by rw [c11] at hcz; cases hcz)
                · kernel_rfl
                refine TS.skip ?_
                refine XS.reAny [0, 1, 2] (mkMask 102 [2, 4, 6, 86]) (m2 == (3 : Int)) h ?_
                kernel_rfl
              · refine TS.cond (m2 == (3 : Int)) ?_ (fun hcz => by rw [c12] at hcz; cases hcz) (fun hcz => ?_)
                · kernel_rfl
                refine TS.seq ?_
                have hq : (True) ∧ ((True) ∧ (True)) := ⟨trivial, ⟨trivial, trivial⟩⟩
                refine TS.reg [] ?_ ?_
                · apply prop_of ?_ hq
                  kernel_rfl
                refine XS.then ?_
                rcases bif_some h with ⟨c13, h⟩ | ⟨c14, h⟩
                · refine TS.cond (m2 == (7 : Int)) ?_ (fun hcz => ?_) (fun hcz => by rw [c13] at hcz; cases hcz)
                  · kernel_rfl
                  refine TS.skip ?_
                  refine XS.reAny [0, 1, 2] (mkMask 102 [2, 4, 6, 86]) (m2 == (7 : Int)) h ?_
                  kernel_rfl
                · refine TS.cond (m2 == (7 : Int)) ?_ (fun hcz => by rw [c14] at hcz; cases hcz) (fun hcz => ?_)
                  · kernel_rfl
                  refine TS.seq ?_
                  have hq : (True) ∧ ((True) ∧ (True)) := ⟨trivial, ⟨trivial, trivial⟩⟩
                  refine TS.reg [] ?_ ?_
                  · apply prop_of ?_ hq
                    kernel_rfl
                  refine XS.then ?_
                  rcases bif_some h with ⟨c15, h⟩ | ⟨c16, h⟩
                  · refine TS.cond (m2 == (8 : Int)) ?_ (fun hcz => ?_) (fun hcz => by rw [c15] at hcz; cases hcz)
                    · kernel_rfl
                    refine TS.skip ?_
                    refine XS.reAny [0, 1, 2] (mkMask 102 [2, 4, 6, 86]) (m2 == (8 : Int)) h ?_
                    kernel_rfl
                  · refine TS.cond (m2 == (8 : Int)) ?_ (fun hcz => by rw [c16] at hcz; cases hcz) (fun hcz => ?_)
                    · kernel_rfl
                    refine TS.seq ?_
                    have hq : (True) ∧ ((True) ∧ (True)) := ⟨trivial, ⟨trivial, trivial⟩⟩
                    refine TS.reg [] ?_ ?_
                    · apply prop_of ?_ hq
                      kernel_rfl
                    refine XS.then ?_
                    rcases bif_some h with ⟨c17, h⟩ | ⟨c18, h⟩
                    · refine TS.cond (m2 == (10 : Int)) ?_ (fun hcz => ?_) (fun hcz => by rw [c17] at hcz; cases hcz)
                      · kernel_rfl
                      refine TS.skip ?_
                      refine XS.reAny [0, 1, 2] (mkMask 102 [2, 4, 6, 86]) (m2 == (10 : Int)) h ?_
                      kernel_rfl
                    · refine TS.cond (m2 == (10 : Int)) ?_ (fun hcz => by rw [c18] at hcz; cases hcz) (fun hcz => ?_)
                      · kernel_rfl
                      have hq : (True) ∧ ((True) ∧ (True)) := ⟨trivial, ⟨trivial, trivial⟩⟩
                      refine TS.reg [] ?_ ?_
                      · apply prop_of ?_ hq
                        kernel_rfl
                      refine XS.reAny [0, 1, 2] (mkMask 102 [2, 4, 6, 86]) (m2 == (13 : Int)) h ?_
                      kernel_rfl
      · refine TS.block ?_
        refine TS.seq ?_
        have hq : (True) ∧ ((True) ∧ ((True) ∧ ((True) ∧ (True)))) := ⟨trivial, ⟨trivial, ⟨trivial, ⟨trivial, trivial⟩⟩⟩⟩
        refine TS.reg [] ?_ ?_
        · apply prop_of ?_ hq
          kernel_rfl
        refine XS.then ?_
        rcases bif_some h with ⟨c19, h⟩ | ⟨c20, h⟩
        · refine TS.cond (host_Dir == (0 : Int)) ?_ (fun hcz => ?_) (fun hcz => by rw [c19] at hcz; cases hcz)
          · kernel_rfl
          have hq : (True) ∧ ((True) ∧ ((True) ∧ ((True) ∧ ((True) ∧ (True))))) := ⟨trivial, ⟨trivial, ⟨trivial, ⟨trivial, ⟨trivial, trivial⟩⟩⟩⟩⟩
          refine TS.reg [] ?_ ?_
          · apply prop_of ?_ hq
            kernel_rfl
          refine XS.blockEnd ?_
          refine XS.reAny [0, 2, 3] (mkMask 102 [2, 4, 6]) (IntKind.wrap .i64 ((1 : Int) + device_Dir)) h ?_
          kernel_rfl
        · refine TS.cond (host_Dir == (0 : Int)) ?_ (fun hcz => by rw [c20] at hcz; cases hcz) (fun hcz => ?_)
          · kernel_rfl
          refine TS.seq ?_
          have hq : (True) ∧ ((True) ∧ ((True) ∧ ((True) ∧ (True)))) := ⟨trivial, ⟨trivial, ⟨trivial, ⟨trivial, trivial⟩⟩⟩⟩
          refine TS.reg [] ?_ ?_
          · apply prop_of ?_ hq
            kernel_rfl
          refine XS.then ?_
          rcases bif_some h with ⟨c21, h⟩ | ⟨c22, h⟩
          · refine TS.cond (device_Dir == (0 : Int)) ?_ (fun hcz => ?_) (fun hcz => by rw [c21] at hcz; cases hcz)
            · kernel_rfl
            have hq : (True) ∧ ((True) ∧ ((True) ∧ ((True) ∧ ((True) ∧ ((True) ∧ ((True) ∧ (True))))))) := ⟨trivial, ⟨trivial, ⟨trivial, ⟨trivial, ⟨trivial, ⟨trivial, ⟨trivial, trivial⟩⟩⟩⟩⟩⟩⟩
            refine TS.reg [] ?_ ?_
            · apply prop_of ?_ hq
              kernel_rfl
            refine XS.blockEnd ?_
            refine XS.reAny [0, 2, 3] (mkMask 102 [2, 4, 6]) (IntKind.wrap .i64 ((4 : Int) + (IntKind.wrap .i64 ((5 : Int) * (IntKind.wrap .i64 (host_Dir - (1 : Int))))))) h ?_
            kernel_rfl
          · refine TS.cond (device_Dir == (0 : Int)) ?_ (fun hcz => by rw [c22] at hcz; cases hcz) (fun hcz => ?_)
            · kernel_rfl
            refine TS.seq ?_
            rcases bif_some h with ⟨c23, h⟩ | ⟨c24, h⟩
            · have hq : (True) ∧ ((True) ∧ ((True) ∧ (((True) ∧ (host_Dir == (1 : Int)) = true) ∧ ((True) ∧ ((True) ∧ ((True) ∧ ((True) ∧ ((True) ∧ (True))))))))) := ⟨trivial, ⟨trivial, ⟨trivial, ⟨⟨trivial, c23⟩, ⟨trivial, ⟨trivial, ⟨trivial, ⟨trivial, ⟨trivial, trivial⟩⟩⟩⟩⟩⟩⟩⟩⟩
              refine TS.reg [.none, .none, .none, .dec true] ?_ ?_
              · apply prop_of ?_ hq
                kernel_rfl
              refine XS.then ?_
              rcases bif_some h with ⟨c25, h⟩ | ⟨c26, h⟩
              · refine TS.cond (device_Dir == (2 : Int)) ?_ (fun hcz => ?_) (fun hcz => by rw [c25] at hcz; cases hcz)
                · kernel_rfl
                have hq : (True) ∧ ((True) ∧ (True)) := ⟨trivial, ⟨trivial, trivial⟩⟩
                refine TS.reg [] ?_ ?_
                · apply prop_of ?_ hq
                  kernel_rfl
                refine XS.blockEnd ?_
                refine XS.reAny [0, 2, 3] (mkMask 102 [2, 4, 6]) (8 : Int) h ?_
                kernel_rfl
              · refine TS.cond (device_Dir == (2 : Int)) ?_ (fun hcz => by rw [c26] at hcz; cases hcz) (fun hcz => ?_)
                · kernel_rfl
                refine TS.seq ?_
                rcases bif_some h with ⟨c27, h⟩ | ⟨c28, h⟩
                · have hq : (True) ∧ ((True) ∧ ((True) ∧ (((True) ∧ (host_Dir == (2 : Int)) = true) ∧ ((True) ∧ ((True) ∧ ((True) ∧ ((True) ∧ ((True) ∧ (True))))))))) := ⟨trivial, ⟨trivial, ⟨trivial, ⟨⟨trivial, c27⟩, ⟨trivial, ⟨trivial, ⟨trivial, ⟨trivial, ⟨trivial, trivial⟩⟩⟩⟩⟩⟩⟩⟩⟩
                  refine TS.reg [.none, .none, .none, .dec true] ?_ ?_
                  · apply prop_of ?_ hq
                    kernel_rfl
                  refine XS.then ?_
                  rcases bif_some h with ⟨c29, h⟩ | ⟨c30, h⟩
                  · refine TS.cond (device_Dir == (1 : Int)) ?_ (fun hcz => ?_) (fun hcz => by rw [c29] at hcz; cases hcz)
                    · kernel_rfl
                    have hq : (True) ∧ ((True) ∧ (True)) := ⟨trivial, ⟨trivial, trivial⟩⟩
                    refine TS.reg [] ?_ ?_
                    · apply prop_of ?_ hq
                      kernel_rfl
                    refine XS.blockEnd ?_
                    refine XS.reAny [0, 2, 3] (mkMask 102 [2, 4, 6]) (10 : Int) h ?_
                    kernel_rfl
                  · refine TS.cond (device_Dir == (1 : Int)) ?_ (fun hcz => by rw [c30] at hcz; cases hcz) (fun hcz => ?_)
                    · kernel_rfl
                    refine TS.seq ?_
                    have hq : (True) ∧ ((True) ∧ ((True) ∧ ((True) ∧ ((True) ∧ ((True) ∧ ((True) ∧ (True))))))) := ⟨trivial, ⟨trivial, ⟨trivial, ⟨trivial, ⟨trivial, ⟨trivial, ⟨trivial, trivial⟩⟩⟩⟩⟩⟩⟩
                    refine TS.reg [] ?_ ?_
                    · apply prop_of ?_ hq
                      kernel_rfl
                    refine XS.then ?_
                    refine TS.seq ?_
                    refine TS.seq ?_
                    have hq : (True) ∧ ((True) ∧ ((True) ∧ ((True) ∧ ((True) ∧ (True))))) := ⟨trivial, ⟨trivial, ⟨trivial, ⟨trivial, ⟨trivial, trivial⟩⟩⟩⟩⟩
                    refine TS.reg [] ?_ ?_
                    · apply prop_of ?_ hq
                      kernel_rfl
                    refine XS.then ?_
                    refine TS.cut (D := Int) (fun d => match d with | m3 => (mkTs 102 [(2, (.ptr 0 [])), (3, (.ptr 1 [])), (4, (.ptr 2 [])), (6, (.ptr 3 []))], [(.box 70 (.st (.cons (.int .i64 host_Dir) (.int .i64 host_Len)))), (.box 70 (.st (.cons (.int .i64 device_Dir) (.int .i64 device_Len)))), (.box 72 (.st (.cons (.int .i64 (0 : Int)) (.cons (.int .i64 (0 : Int)) (.cons (.int .i64 (0 : Int)) (.int .i64 (0 : Int))))))), (.box 72 (.st (.cons (.int .i64 m3) (.cons (.int .i64 (if device_Len < host_Len then device_Len else host_Len)) (.cons (.int .i64 (0 : Int)) (.int .i64 (0 : Int)))))))])) (fun d => F30_j21 n host_Len device_Len d = some r) ?_ ?_
                    · rintro m3 h
                      replace h : (bif (decide (host_Len < device_Len)) then (F30_j17 n host_Len device_Len (IntKind.wrap .i64 (m3 + (2 : Int)))) else (F30_j17 n host_Len device_Len m3)) = some r := h
                      refine XS.then ?_
                      refine TS.seq ?_
                      have hq : (True) ∧ ((True) ∧ ((True) ∧ ((True) ∧ ((True) ∧ (True))))) := ⟨trivial, ⟨trivial, ⟨trivial, ⟨trivial, ⟨trivial, trivial⟩⟩⟩⟩⟩
                      refine TS.reg [] ?_ ?_
                      · apply prop_of ?_ hq
                        kernel_rfl
                      refine XS.then ?_
                      rcases bif_some h with ⟨c31, h⟩ | ⟨c32, h⟩
                      · refine TS.cond (decide (host_Len < device_Len)) ?_ (fun hcz => ?_) (fun hcz => by rw [c31] at hcz; cases hcz)
                        · kernel_rfl
                        have hq : (True) ∧ ((True) ∧ ((True) ∧ ((True) ∧ ((True) ∧ (True))))) := ⟨trivial, ⟨trivial, ⟨trivial, ⟨trivial, ⟨trivial, trivial⟩⟩⟩⟩⟩
                        refine TS.reg [] ?_ ?_
                        · apply prop_of ?_ hq
                          kernel_rfl
                        refine XS.blockEnd ?_
                        refine XS.reAny [0, 2, 3] (mkMask 102 [2, 4, 6]) (IntKind.wrap .i64 (m3 + (2 : Int))) h ?_
                        kernel_rfl
                      · refine TS.cond (decide (host_Len < device_Len)) ?_ (fun hcz => by rw [c32] at hcz; cases hcz) (fun hcz => ?_)
                        · kernel_rfl
                        refine TS.skip ?_
                        refine XS.blockEnd ?_
                        refine XS.reAny [0, 2, 3] (mkMask 102 [2, 4, 6]) m3 h ?_
                        kernel_rfl
                    · rcases bif_some h with ⟨c33, h⟩ | ⟨c34, h⟩
                      · refine TS.cond (host_Len == device_Len) ?_ (fun hcz => ?_) (fun hcz => by rw [c33] at hcz; cases hcz)
                        · kernel_rfl
                        have hq : (True) ∧ ((True) ∧ ((True) ∧ ((True) ∧ ((True) ∧ (True))))) := ⟨trivial, ⟨trivial, ⟨trivial, ⟨trivial, ⟨trivial, trivial⟩⟩⟩⟩⟩
                        refine TS.reg [] ?_ ?_
                        · apply prop_of ?_ hq
                          kernel_rfl
                        refine XS.reAny [0, 1, 2, 3] (mkMask 102 [2, 3, 4, 6]) (IntKind.wrap .i64 ((IntKind.wrap .i64 ((5 : Int) + (IntKind.wrap .i64 ((6 : Int) * (IntKind.wrap .i64 (host_Dir - (1 : Int))))))) + (1 : Int))) h ?_
                        kernel_rfl
                      · refine TS.cond (host_Len == device_Len) ?_ (fun hcz => by rw [c34] at hcz; cases hcz) (fun hcz => ?_)
                        · kernel_rfl
                        refine TS.skip ?_
                        refine XS.reAny [0, 1, 2, 3] (mkMask 102 [2, 3, 4, 6]) (IntKind.wrap .i64 ((5 : Int) + (IntKind.wrap .i64 ((6 : Int) * (IntKind.wrap .i64 (host_Dir - (1 : Int))))))) h ?_
                        kernel_rfl
                · have hq : (True) ∧ ((True) ∧ ((True) ∧ (((True) ∧ (host_Dir == (2 : Int)) = false) ∧ ((True) ∧ ((True) ∧ (True)))))) := ⟨trivial, ⟨trivial, ⟨trivial, ⟨⟨trivial, c28⟩, ⟨trivial, ⟨trivial, trivial⟩⟩⟩⟩⟩⟩
                  refine TS.reg [.none, .none, .none, .dec false] ?_ ?_
                  · apply prop_of ?_ hq
                    kernel_rfl
                  refine XS.then ?_
                  refine TS.no ?_ ?_
                  · kernel_rfl
                  refine TS.seq ?_
                  have hq : (True) ∧ ((True) ∧ ((True) ∧ ((True) ∧ ((True) ∧ ((True) ∧ ((True) ∧ (True))))))) := ⟨trivial, ⟨trivial, ⟨trivial, ⟨trivial, ⟨trivial, ⟨trivial, ⟨trivial, trivial⟩⟩⟩⟩⟩⟩⟩
                  refine TS.reg [] ?_ ?_
                  · apply prop_of ?_ hq
                    kernel_rfl
                  refine XS.then ?_
                  refine TS.seq ?_
                  refine TS.seq ?_
                  have hq : (True) ∧ ((True) ∧ ((True) ∧ ((True) ∧ ((True) ∧ (True))))) := ⟨trivial, ⟨trivial, ⟨trivial, ⟨trivial, ⟨trivial, trivial⟩⟩⟩⟩⟩
                  refine TS.reg [] ?_ ?_
                  · apply prop_of ?_ hq
                    kernel_rfl
                  refine XS.then ?_
                  refine TS.cut (D := Int) (fun d => match d with | m3_2 => (mkTs 102 [(2, (.ptr 0 [])), (3, (.ptr 1 [])), (4, (.ptr 2 [])), (6, (.ptr 3 []))], [(.box 70 (.st (.cons (.int .i64 host_Dir) (.int .i64 host_Len)))), (.box 70 (.st (.cons (.int .i64 device_Dir) (.int .i64 device_Len)))), (.box 72 (.st (.cons (.int .i64 (0 : Int)) (.cons (.int .i64 (0 : Int)) (.cons (.int .i64 (0 : Int)) (.int .i64 (0 : Int))))))), (.box 72 (.st (.cons (.int .i64 m3_2) (.cons (.int .i64 (if device_Len < host_Len then device_Len else host_Len)) (.cons (.int .i64 (0 : Int)) (.int .i64 (0 : Int)))))))])) (fun d => F30_j22 n host_Len device_Len d = some r) ?_ ?_
                  · rintro m3_2 h
                    replace h : (bif (decide (host_Len < device_Len)) then (F30_j17 n host_Len device_Len (IntKind.wrap .i64 (m3_2 + (2 : Int)))) else (F30_j17 n host_Len device_Len m3_2)) = some r := h
                    refine XS.then ?_
                    refine TS.seq ?_
                    have hq : (True) ∧ ((True) ∧ ((True) ∧ ((True) ∧ ((True) ∧ (True))))) := ⟨trivial, ⟨trivial, ⟨trivial, ⟨trivial, ⟨trivial, trivial⟩⟩⟩⟩⟩
                    refine TS.reg [] ?_ ?_
                    · apply prop_of ?_ hq
                      kernel_rfl
                    refine XS.then ?_
                    rcases bif_some h with ⟨c35, h⟩ | ⟨c36, h⟩
                    · refine TS.cond (decide (host_Len < device_Len)) ?_ (fun hcz => ?_) (fun hcz => by rw [c35] at hcz; cases hcz)
                      · kernel_rfl
                      have hq : (True) ∧ ((True) ∧ ((True) ∧ ((True) ∧ ((True) ∧ (True))))) := ⟨trivial, ⟨trivial, ⟨trivial, ⟨trivial, ⟨trivial, trivial⟩⟩⟩⟩⟩
                      refine TS.reg [] ?_ ?_
                      · apply prop_of ?_ hq
                        kernel_rfl
                      refine XS.blockEnd ?_
                      refine XS.reAny [0, 2, 3] (mkMask 102 [2, 4, 6]) (IntKind.wrap .i64 (m3_2 + (2 : Int))) h ?_
                      kernel_rfl
                    · refine TS.cond (decide (host_Len < device_Len)) ?_ (fun hcz => by rw [c36] at hcz; cases hcz) (fun hcz => ?_)
                      · kernel_rfl
                      refine TS.skip ?_
                      refine XS.blockEnd ?_
                      refine XS.reAny [0, 2, 3] (mkMask 102 [2, 4, 6]) m3_2 h ?_
                      kernel_rfl
                  · rcases bif_some h with ⟨c37, h⟩ | ⟨c38, h⟩
                    · refine TS.cond (host_Len == device_Len) ?_ (fun hcz => ?_) (fun hcz => by rw [c37] at hcz; cases hcz)
                      · kernel_rfl
                      have hq : (True) ∧ ((True) ∧ ((True) ∧ ((True) ∧ ((True) ∧ (True))))) := ⟨trivial, ⟨trivial, ⟨trivial, ⟨trivial, ⟨trivial, trivial⟩⟩⟩⟩⟩
                      refine TS.reg [] ?_ ?_
                      · apply prop_of ?_ hq
                        kernel_rfl
                      refine XS.reAny [0, 1, 2, 3] (mkMask 102 [2, 3, 4, 6]) (IntKind.wrap .i64 ((IntKind.wrap .i64 ((5 : Int) + (IntKind.wrap .i64 ((6 : Int) * (IntKind.wrap .i64 (host_Dir - (1 : Int))))))) + (1 : Int))) h ?_
                      kernel_rfl
                    · refine TS.cond (host_Len == device_Len) ?_ (fun hcz => by rw [c38] at hcz; cases hcz) (fun hcz => ?_)
                      · kernel_rfl
                      refine TS.skip ?_
                      refine XS.reAny [0, 1, 2, 3] (mkMask 102 [2, 3, 4, 6]) (IntKind.wrap .i64 ((5 : Int) + (IntKind.wrap .i64 ((6 : Int) * (IntKind.wrap .i64 (host_Dir - (1 : Int))))))) h ?_
                      kernel_rfl
            · have hq : (True) ∧ ((True) ∧ ((True) ∧ (((True) ∧ (host_Dir == (1 : Int)) = false) ∧ ((True) ∧ ((True) ∧ (True)))))) := ⟨trivial, ⟨trivial, ⟨trivial, ⟨⟨trivial, c24⟩, ⟨trivial, ⟨trivial, trivial⟩⟩⟩⟩⟩⟩
              refine TS.reg [.none, .none, .none, .dec false] ?_ ?_
              · apply prop_of ?_ hq
                kernel_rfl
              refine XS.then ?_
              refine TS.no ?_ ?_
              · kernel_rfl
              refine TS.seq ?_
              rcases bif_some h with ⟨c39, h⟩ | ⟨c40, h⟩
              · have hq : (True) ∧ ((True) ∧ ((True) ∧ (((True) ∧ (host_Dir == (2 : Int)) = true) ∧ ((True) ∧ ((True) ∧ ((True) ∧ ((True) ∧ ((True) ∧ (True))))))))) := ⟨trivial, ⟨trivial, ⟨trivial, ⟨⟨trivial, c39⟩, ⟨trivial, ⟨trivial, ⟨trivial, ⟨trivial, ⟨trivial, trivial⟩⟩⟩⟩⟩⟩⟩⟩⟩
                refine TS.reg [.none, .none, .none, .dec true] ?_ ?_
                · apply prop_of ?_ hq
                  kernel_rfl
                refine XS.then ?_
                rcases bif_some h with ⟨c41, h⟩ | ⟨c42, h⟩
                · refine TS.cond (device_Dir == (1 : Int)) ?_ (fun hcz => ?_) (fun hcz => by rw [c41] at hcz; cases hcz)
                  · kernel_rfl
                  have hq : (True) ∧ ((True) ∧ (True)) := ⟨trivial, ⟨trivial, trivial⟩⟩
                  refine TS.reg [] ?_ ?_
                  · apply prop_of ?_ hq
                    kernel_rfl
                  refine XS.blockEnd ?_
                  refine XS.reAny [0, 2, 3] (mkMask 102 [2, 4, 6]) (10 : Int) h ?_
                  kernel_rfl
                · refine TS.cond (device_Dir == (1 : Int)) ?_ (fun hcz => by rw [c42] at hcz; cases hcz) (fun hcz => ?_)
                  · kernel_rfl
                  refine TS.seq ?_
                  have hq : (True) ∧ ((True) ∧ ((True) ∧ ((True) ∧ ((True) ∧ ((True) ∧ ((True) ∧ (True))))))) := ⟨trivial, ⟨trivial, ⟨trivial, ⟨trivial, ⟨trivial, ⟨trivial, ⟨trivial, trivial⟩⟩⟩⟩⟩⟩⟩
                  refine TS.reg [] ?_ ?_
                  · apply prop_of ?_ hq
                    kernel_rfl
                  refine XS.then ?_
                  refine TS.seq ?_
                  refine TS.seq ?_
                  have hq : (True) ∧ ((True) ∧ ((True) ∧ ((True) ∧ ((True) ∧ (True))))) := ⟨trivial, ⟨trivial, ⟨trivial, ⟨trivial, ⟨trivial, trivial⟩⟩⟩⟩⟩
                  refine TS.reg [] ?_ ?_
                  · apply prop_of ?_ hq
                    kernel_rfl
                  refine XS.then ?_
                  refine TS.cut (D := Int) (fun d => match d with | m3_3 => (mkTs 102 [(2, (.ptr 0 [])), (3, (.ptr 1 [])), (4, (.ptr 2 [])), (6, (.ptr 3 []))], [(.box 70 (.st (.cons (.int .i64 host_Dir) (.int .i64 host_Len)))), (.box 70 (.st (.cons (.int .i64 device_Dir) (.int .i64 device_Len)))), (.box 72 (.st (.cons (.int .i64 (0 : Int)) (.cons (.int .i64 (0 : Int)) (.cons (.int .i64 (0 : Int)) (.int .i64 (0 : Int))))))), (.box 72 (.st (.cons (.int .i64 m3_3) (.cons (.int .i64 (if device_Len < host_Len then device_Len else host_Len)) (.cons (.int .i64 (0 : Int)) (.int .i64 (0 : Int)))))))])) (fun d => F30_j23 n host_Len device_Len d = some r) ?_ ?_
                  · rintro m3_3 h
                    replace h : (bif (decide (host_Len < device_Len)) then (F30_j17 n host_Len device_Len (IntKind.wrap .i64 (m3_3 + (2 : Int)))) else (F30_j17 n host_Len device_Len m3_3)) = some r := h
                    refine XS.then ?_
                    refine TS.seq ?_
                    have hq : (True) ∧ ((True) ∧ ((True) ∧ ((True) ∧ ((True) ∧ (True))))) := ⟨trivial, ⟨trivial, ⟨trivial, ⟨trivial, ⟨trivial, trivial⟩⟩⟩⟩⟩
                    refine TS.reg [] ?_ ?_
                    · apply prop_of ?_ hq
                      kernel_rfl
                    refine XS.then ?_
                    rcases bif_some h with ⟨c43, h⟩ | ⟨c44, h⟩
                    · refine TS.cond (decide (host_Len < device_Len)) ?_ (fun hcz => ?_) (fun hcz => by rw [c43] at hcz; cases hcz)
                      · kernel_rfl
                      have hq : (True) ∧ ((True) ∧ ((True) ∧ ((True) ∧ ((True) ∧ (True))))) := ⟨trivial, ⟨trivial, ⟨trivial, ⟨trivial, ⟨trivial, trivial⟩⟩⟩⟩⟩
                      refine TS.reg [] ?_ ?_
                      · apply prop_of ?_ hq
                        kernel_rfl
                      refine XS.blockEnd ?_
                      refine XS.reAny [0, 2, 3] (mkMask 102 [2, 4, 6]) (IntKind.wrap .i64 (m3_3 + (2 : Int))) h ?_
                      kernel_rfl
                    · refine TS.cond (decide (host_Len < device_Len)) ?_ (fun hcz => by rw [c44] at hcz; cases hcz) (fun hcz => ?_)
                      · kernel_rfl
                      refine TS.skip ?_
                      refine XS.blockEnd ?_
                      refine XS.reAny [0, 2, 3] (mkMask 102 [2, 4, 6]) m3_3 h ?_
                      kernel_rfl
                  · rcases bif_some h with ⟨c45, h⟩ | ⟨c46, h⟩
                    · refine TS.cond (host_Len == device_Len) ?_ (fun hcz => ?_) (fun hcz => by rw [c45] at hcz; cases hcz)
                      · kernel_rfl
                      have hq : (True) ∧ ((True) ∧ ((True) ∧ ((True) ∧ ((True) ∧ (True))))) := ⟨trivial, ⟨trivial, ⟨trivial, ⟨trivial, ⟨trivial, trivial⟩⟩⟩⟩⟩
                      refine TS.reg [] ?_ ?_
                      · apply prop_of ?_ hq
                        kernel_rfl
                      refine XS.reAny [0, 1, 2, 3] (mkMask 102 [2, 3, 4, 6]) (IntKind.wrap .i64 ((IntKind.wrap .i64 ((5 : Int) + (IntKind.wrap .i64 ((6 : Int) * (IntKind.wrap .i64 (host_Dir - (1 : Int))))))) + (1 : Int))) h ?_
                      kernel_rfl
                    · refine TS.cond (host_Len == device_Len) ?_ (fun hcz => by rw [c46] at hcz; cases hcz) (fun hcz => ?_)
                      · kernel_rfl
                      refine TS.skip ?_
                      refine XS.reAny [0, 1, 2, 3] (mkMask 102 [2, 3, 4, 6]) (IntKind.wrap .i64 ((5 : Int) + (IntKind.wrap .i64 ((6 : Int) * (IntKind.wrap .i64 (host_Dir - (1 : Int))))))) h ?_
                      kernel_rfl
              · have hq : (True) ∧ ((True) ∧ ((True) ∧ (((True) ∧ (host_Dir == (2 : Int)) = false) ∧ ((True) ∧ ((True) ∧ (True)))))) := ⟨trivial, ⟨trivial, ⟨trivial, ⟨⟨trivial, c40⟩, ⟨trivial, ⟨trivial, trivial⟩⟩⟩⟩⟩⟩
                refine TS.reg [.none, .none, .none, .dec false] ?_ ?_
                · apply prop_of ?_ hq
                  kernel_rfl
                refine XS.then ?_
                refine TS.no ?_ ?_
                · kernel_rfl
                refine TS.seq ?_
                have hq : (True) ∧ ((True) ∧ ((True) ∧ ((True) ∧ ((True) ∧ ((True) ∧ ((True) ∧ (True))))))) := ⟨trivial, ⟨trivial, ⟨trivial, ⟨trivial, ⟨trivial, ⟨trivial, ⟨trivial, trivial⟩⟩⟩⟩⟩⟩⟩
                refine TS.reg [] ?_ ?_
                · apply prop_of ?_ hq
                  kernel_rfl
                refine XS.then ?_
                refine TS.seq ?_
                refine TS.seq ?_
                have hq : (True) ∧ ((True) ∧ ((True) ∧ ((True) ∧ ((True) ∧ (True))))) := ⟨trivial, ⟨trivial, ⟨trivial, ⟨trivial, ⟨trivial, trivial⟩⟩⟩⟩⟩
                refine TS.reg [] ?_ ?_
                · apply prop_of ?_ hq
                  kernel_rfl
                refine XS.then ?_
                refine TS.cut (D := Int) (fun d => match d with | m3_4 => (mkTs 102 [(2, (.ptr 0 [])), (3, (.ptr 1 [])), (4, (.ptr 2 [])), (6, (.ptr 3 []))], [(.box 70 (.st (.cons (.int .i64 host_Dir) (.int .i64 host_Len)))), (.box 70 (.st (.cons (.int .i64 device_Dir) (.int .i64 device_Len)))), (.box 72 (.st (.cons (.int .i64 (0 : Int)) (.cons (.int .i64 (0 : Int)) (.cons (.int .i64 (0 : Int)) (.int .i64 (0 : Int))))))), (.box 72 (.st (.cons (.int .i64 m3_4) (.cons (.int .i64 (if device_Len < host_Len then device_Len else host_Len)) (.cons (.int .i64 (0 : Int)) (.int .i64 (0 : Int)))))))])) (fun d => F30_j24 n host_Len device_Len d = some r) ?_ ?_
                · rintro m3_4 h
                  replace h : (bif (decide (host_Len < device_Len)) then (F30_j17 n host_Len device_Len (IntKind.wrap .i64 (m3_4 + (2 : Int)))) else (F30_j17 n host_Len device_Len m3_4)) = some r := h
                  refine XS.then ?_
                  refine TS.seq ?_
                  have hq : (True) ∧ ((True) ∧ ((True) ∧ ((True) ∧ ((True) ∧ (True))))) := ⟨trivial, ⟨trivial, ⟨trivial, ⟨trivial, ⟨trivial, trivial⟩⟩⟩⟩⟩
                  refine TS.reg [] ?_ ?_
                  · apply prop_of ?_ hq
                    kernel_rfl
                  refine XS.then ?_
                  rcases bif_some h with ⟨c47, h⟩ | ⟨c48, h⟩
                  · refine TS.cond (decide (host_Len < device_Len)) ?_ (fun hcz => ?_) (fun hcz => by rw [c47] at hcz; cases hcz)
                    · kernel_rfl
                    have hq : (True) ∧ ((True) ∧ ((True) ∧ ((True) ∧ ((True) ∧ (True))))) := ⟨trivial, ⟨trivial, ⟨trivial, ⟨trivial, ⟨trivial, trivial⟩⟩⟩⟩⟩
                    refine TS.reg [] ?_ ?_
                    · apply prop_of ?_ hq
                      kernel_rfl
                    refine XS.blockEnd ?_
                    refine XS.reAny [0, 2, 3] (mkMask 102 [2, 4, 6]) (IntKind.wrap .i64 (m3_4 + (2 : Int))) h ?_
                    kernel_rfl
                  · refine TS.cond (decide (host_Len < device_Len)) ?_ (fun hcz => by rw [c48] at hcz; cases hcz) (fun hcz => ?_)
                    · kernel_rfl
                    refine TS.skip ?_
                    refine XS.blockEnd ?_
                    refine XS.reAny [0, 2, 3] (mkMask 102 [2, 4, 6]) m3_4 h ?_
                    kernel_rfl
                · rcases bif_some h with ⟨c49, h⟩ | ⟨c50, h⟩
                  · refine TS.cond (host_Len == device_Len) ?_ (fun hcz => ?_) (fun hcz => by rw [c49] at hcz; cases hcz)
                    · kernel_rfl
                    have hq : (True) ∧ ((True) ∧ ((True) ∧ ((True) ∧ ((True) ∧ (True))))) := ⟨trivial, ⟨trivial, ⟨trivial, ⟨trivial, ⟨trivial, trivial⟩⟩⟩⟩⟩
                    refine TS.reg [] ?_ ?_
                    · apply prop_of ?_ hq
                      kernel_rfl
                    refine XS.reAny [0, 1, 2, 3] (mkMask 102 [2, 3, 4, 6]) (IntKind.wrap .i64 ((IntKind.wrap .i64 ((5 : Int) + (IntKind.wrap .i64 ((6 : Int) * (IntKind.wrap .i64 (host_Dir - (1 : Int))))))) + (1 : Int))) h ?_
                    kernel_rfl
                  · refine TS.cond (host_Len == device_Len) ?_ (fun hcz => by rw [c50] at hcz; cases hcz) (fun hcz => ?_)
                    · kernel_rfl
                    refine TS.skip ?_
                    refine XS.reAny [0, 1, 2, 3] (mkMask 102 [2, 3, 4, 6]) (IntKind.wrap .i64 ((5 : Int) + (IntKind.wrap .i64 ((6 : Int) * (IntKind.wrap .i64 (host_Dir - (1 : Int))))))) h ?_
                    kernel_rfl

/-! plugtree/bulk.WriteStatus -/
def F32_j2 (n : Nat) (t_Tag : Int) (t_Residue : Int) (t_Code : Int) : Bool → Option ((List UInt8) × Int)
  | x => (bif x then (some (([] : List UInt8), (1 : Int))) else ((F65 n t_Tag).bind fun y_3 => (bif (decide (([85, 83, 66, 83] : List UInt8).length + y_3.length ≤ 9223372036854775807)) then ((F65 n t_Residue).bind fun y_4 => (bif (decide ((([85, 83, 66, 83] : List UInt8) ++ y_3).length + y_4.length ≤ 9223372036854775807)) then (bif (decide (((([85, 83, 66, 83] : List UInt8) ++ y_3) ++ y_4).length + (strOf [(IntKind.wrap .u8 (t_Code))]).length ≤ 9223372036854775807)) then (some ((((([85, 83, 66, 83] : List UInt8) ++ y_3) ++ y_4) ++ (strOf [(IntKind.wrap .u8 (t_Code))])), (0 : Int))) else none) else none)) else none)))
def F32 (n : Nat) (t_Tag : Int) (t_Residue : Int) (t_Code : Int) : Option ((List UInt8) × Int) := ((F64 n t_Tag).bind fun y_5 => (bif (!y_5) then (F32_j2 n t_Tag t_Residue t_Code true) else ((F64 n t_Residue).bind fun y_6 => (bif (!y_6) then (F32_j2 n t_Tag t_Residue t_Code true) else (bif (decide (t_Code < (0 : Int))) then (F32_j2 n t_Tag t_Residue t_Code true) else (F32_j2 n t_Tag t_Residue t_Code (decide (t_Code > (2 : Int)))))))))
theorem F32_ok (n : Nat) (t_Tag : Int) (t_Residue : Int) (t_Code : Int) (r : (List UInt8) × Int) (h : F32 n t_Tag t_Residue t_Code = some r) : PureC Try.prog 32 [(.st (.cons (.int .i64 t_Tag) (.cons (.int .i64 t_Residue) (.int .i64 t_Code))))] (.tup (.cons (.str r.1) (.cons (.int .i64 r.2) .nil))) [] := by
  refine PureC.mkS Try.func32 rfl rfl ?_
  intro w0 fz0 hfz
  replace h : ((F64 n t_Tag).bind fun y_5 => (bif (!y_5) then (F32_j2 n t_Tag t_Residue t_Code true) else ((F64 n t_Residue).bind fun y_6 => (bif (!y_6) then (F32_j2 n t_Tag t_Residue t_Code true) else (bif (decide (t_Code < (0 : Int))) then (F32_j2 n t_Tag t_Residue t_Code true) else (F32_j2 n t_Tag t_Residue t_Code (decide (t_Code > (2 : Int))))))))) = some r := h
  refine TS.seq ?_
  have hq : (True) ∧ ((True) ∧ ((True) ∧ (True))) := ⟨trivial, ⟨trivial, ⟨trivial, trivial⟩⟩⟩
  refine TS.reg [] ?_ ?_
  · apply prop_of ?_ hq
    kernel_rfl
  refine XS.then ?_
  refine TS.seq ?_
  refine TS.seq ?_
  refine TS.cut (D := Bool) (fun d => match d with | x => (mkTs 38 [(1, (.ptr 0 [])), (23, (.bool x))], [(.box 79 (.st (.cons (.int .i64 t_Tag) (.cons (.int .i64 t_Residue) (.int .i64 t_Code)))))])) (fun d => F32_j2 n t_Tag t_Residue t_Code d = some r) ?_ ?_
  · rintro x h
    replace h : (bif x then (some (([] : List UInt8), (1 : Int))) else ((F65 n t_Tag).bind fun y_3 => (bif (decide (([85, 83, 66, 83] : List UInt8).length + y_3.length ≤ 9223372036854775807)) then ((F65 n t_Residue).bind fun y_4 => (bif (decide ((([85, 83, 66, 83] : List UInt8) ++ y_3).length + y_4.length ≤ 9223372036854775807)) then (bif (decide (((([85, 83, 66, 83] : List UInt8) ++ y_3) ++ y_4).length + (strOf [(IntKind.wrap .u8 (t_Code))]).length ≤ 9223372036854775807)) then (some ((((([85, 83, 66, 83] : List UInt8) ++ y_3) ++ y_4) ++ (strOf [(IntKind.wrap .u8 (t_Code))])), (0 : Int))) else none) else none)) else none))) = some r := h
    refine XS.then ?_
    rcases bif_some h with ⟨c1, h⟩ | ⟨c2, h⟩
    · refine TS.cond x ?_ (fun hcz => ?_) (fun hcz => by rw [c1] at hcz; cases hcz)
      · kernel_rfl
      refine TS.seq ?_
      have hq : (True) ∧ ((True) ∧ (True)) := ⟨trivial, ⟨trivial, trivial⟩⟩
      refine TS.reg [] ?_ ?_
      · apply prop_of ?_ hq
        kernel_rfl
      refine XS.then ?_
      refine TS.ret ?_
      refine XS.passR ?_
      obtain rfl : (([] : List UInt8), (1 : Int)) = r := Option.some.inj h
      exact XS.fin [] ((True) ∧ ((True) ∧ (True))) (by kernel_rfl) ⟨trivial, ⟨trivial, trivial⟩⟩
    · refine TS.cond x ?_ (fun hcz => by rw [c2] at hcz; cases hcz) (fun hcz => ?_)
      · kernel_rfl
      refine TS.skip ?_
      refine XS.then ?_
      refine TS.seq ?_
      obtain ⟨y_3, hx3, h⟩ := bind_some' h
      obtain ⟨t4, h⟩ := test_some h
      obtain ⟨y_4, hx5, h⟩ := bind_some' h
      obtain ⟨t6, h⟩ := test_some h
      obtain ⟨t7, h⟩ := test_some h
      have hq : ((True) ∧ ((True) ∧ ((PureC Try.prog 65 [(.int .i64 t_Tag)] (.str y_3) []) ∧ ((([85, 83, 66, 83] : List UInt8).length + y_3.length ≤ 9223372036854775807) ∧ ((True) ∧ ((True) ∧ ((PureC Try.prog 65 [(.int .i64 t_Residue)] (.str y_4) []) ∧ (((([85, 83, 66, 83] : List UInt8) ++ y_3).length + y_4.length ≤ 9223372036854775807) ∧ ((True) ∧ ((True) ∧ ((True) ∧ (((0 < 1 ∧ True) ∧ (True)) ∧ ((True) ∧ ((((([85, 83, 66, 83] : List UInt8) ++ y_3) ++ y_4).length + (strOf [(IntKind.wrap .u8 (t_Code))]).length ≤ 9223372036854775807) ∧ (True))))))))))))))) ∧ ((True) ∧ ((True) ∧ (True))) := ⟨⟨trivial, ⟨trivial, ⟨F65_ok n t_Tag y_3 hx3, ⟨of_decide_eq_true t4, ⟨trivial, ⟨trivial, ⟨F65_ok n t_Residue y_4 hx5, ⟨of_decide_eq_true t6, ⟨trivial, ⟨trivial, ⟨trivial, ⟨⟨⟨by decide, trivial⟩, trivial⟩, ⟨trivial, ⟨of_decide_eq_true t7, trivial⟩⟩⟩⟩⟩⟩⟩⟩⟩⟩⟩⟩⟩⟩, ⟨trivial, ⟨trivial, trivial⟩⟩⟩
      refine TS.draw 14 [] [.none, .none, (.call (.str y_3) []), .none, .none, .none, (.call (.str y_4) [])] (by kernel_rfl) ?_ ?_
      · apply prop_of ?_ hq
        kernel_rfl
      refine XS.then ?_
      refine TS.ret ?_
      obtain rfl : ((((([85, 83, 66, 83] : List UInt8) ++ y_3) ++ y_4) ++ (strOf [(IntKind.wrap .u8 (t_Code))])), (0 : Int)) = r := Option.some.inj h
      exact XS.fin [] ((True) ∧ ((True) ∧ (True))) (by kernel_rfl) ⟨trivial, ⟨trivial, trivial⟩⟩
  · obtain ⟨y_5, hx8, h⟩ := bind_some' h
    rcases bif_some h with ⟨c9, h⟩ | ⟨c10, h⟩
    · have hq : (True) ∧ ((True) ∧ ((PureC Try.prog 64 [(.int .i64 t_Tag)] (.bool y_5) []) ∧ ((True) ∧ (((True) ∧ (!y_5) = true) ∧ ((True) ∧ ((True) ∧ ((True) ∧ ((True) ∧ ((True) ∧ (True)))))))))) := ⟨trivial, ⟨trivial, ⟨F64_ok n t_Tag y_5 hx8, ⟨trivial, ⟨⟨trivial, c9⟩, ⟨trivial, ⟨trivial, ⟨trivial, ⟨trivial, ⟨trivial, trivial⟩⟩⟩⟩⟩⟩⟩⟩⟩⟩
      refine TS.reg [.none, .none, (.call (.bool y_5) []), .none, .dec true] ?_ ?_
      · apply prop_of ?_ hq
        kernel_rfl
      refine XS.reAny [0] (mkMask 38 [1, 23]) true h ?_
      kernel_rfl
    · obtain ⟨y_6, hx11, h⟩ := bind_some' h
      rcases bif_some h with ⟨c12, h⟩ | ⟨c13, h⟩
      · have hq : (True) ∧ ((True) ∧ ((PureC Try.prog 64 [(.int .i64 t_Tag)] (.bool y_5) []) ∧ ((True) ∧ (((True) ∧ (!y_5) = false) ∧ ((True) ∧ ((True) ∧ ((PureC Try.prog 64 [(.int .i64 t_Residue)] (.bool y_6) []) ∧ ((True) ∧ ((True) ∧ (((True) ∧ (!y_6) = true) ∧ ((True) ∧ ((True) ∧ ((True) ∧ (True)))))))))))))) := ⟨trivial, ⟨trivial, ⟨F64_ok n t_Tag y_5 hx8, ⟨trivial, ⟨⟨trivial, c10⟩, ⟨trivial, ⟨trivial, ⟨F64_ok n t_Residue y_6 hx11, ⟨trivial, ⟨trivial, ⟨⟨trivial, c12⟩, ⟨trivial, ⟨trivial, ⟨trivial, trivial⟩⟩⟩⟩⟩⟩⟩⟩⟩⟩⟩⟩⟩⟩
        refine TS.reg [.none, .none, (.call (.bool y_5) []), .none, .dec false, .none, .none, (.call (.bool y_6) []), .none, .none, .dec true] ?_ ?_
        · apply prop_of ?_ hq
          kernel_rfl
        refine XS.reAny [0] (mkMask 38 [1, 23]) true h ?_
        kernel_rfl
      · rcases bif_some h with ⟨c14, h⟩ | ⟨c15, h⟩
        · have hq : (True) ∧ ((True) ∧ ((PureC Try.prog 64 [(.int .i64 t_Tag)] (.bool y_5) []) ∧ ((True) ∧ (((True) ∧ (!y_5) = false) ∧ ((True) ∧ ((True) ∧ ((PureC Try.prog 64 [(.int .i64 t_Residue)] (.bool y_6) []) ∧ ((True) ∧ ((True) ∧ (((True) ∧ (!y_6) = false) ∧ ((True) ∧ ((True) ∧ ((True) ∧ ((True) ∧ (((True) ∧ (decide (t_Code < (0 : Int))) = true) ∧ ((True) ∧ (True))))))))))))))))) := ⟨trivial, ⟨trivial, ⟨F64_ok n t_Tag y_5 hx8, ⟨trivial, ⟨⟨trivial, c10⟩, ⟨trivial, ⟨trivial, ⟨F64_ok n t_Residue y_6 hx11, ⟨trivial, ⟨trivial, ⟨⟨trivial, c13⟩, ⟨trivial, ⟨trivial, ⟨trivial, ⟨trivial, ⟨⟨trivial, c14⟩, ⟨trivial, trivial⟩⟩⟩⟩⟩⟩⟩⟩⟩⟩⟩⟩⟩⟩⟩⟩⟩
          refine TS.reg [.none, .none, (.call (.bool y_5) []), .none, .dec false, .none, .none, (.call (.bool y_6) []), .none, .none, .dec false, .none, .none, .none, .none, .dec true] ?_ ?_
          · apply prop_of ?_ hq
            kernel_rfl
          refine XS.reAny [0] (mkMask 38 [1, 23]) true h ?_
          kernel_rfl
        · have hq : (True) ∧ ((True) ∧ ((PureC Try.prog 64 [(.int .i64 t_Tag)] (.bool y_5) []) ∧ ((True) ∧ (((True) ∧ (!y_5) = false) ∧ ((True) ∧ ((True) ∧ ((PureC Try.prog 64 [(.int .i64 t_Residue)] (.bool y_6) []) ∧ ((True) ∧ ((True) ∧ (((True) ∧ (!y_6) = false) ∧ ((True) ∧ ((True) ∧ ((True) ∧ ((True) ∧ (((True) ∧ (decide (t_Code < (0 : Int))) = false) ∧ ((True) ∧ ((True) ∧ ((True) ∧ ((True) ∧ (True)))))))))))))))))))) := ⟨trivial, ⟨trivial, ⟨F64_ok n t_Tag y_5 hx8, ⟨trivial, ⟨⟨trivial, c10⟩, ⟨trivial, ⟨trivial, ⟨F64_ok n t_Residue y_6 hx11, ⟨trivial, ⟨trivial, ⟨⟨trivial, c13⟩, ⟨trivial, ⟨trivial, ⟨trivial, ⟨trivial, ⟨⟨trivial, c15⟩, ⟨trivial, ⟨trivial, ⟨trivial, ⟨trivial, trivial⟩⟩⟩⟩⟩⟩⟩⟩⟩⟩⟩⟩⟩⟩⟩⟩⟩⟩⟩⟩
          refine TS.reg [.none, .none, (.call (.bool y_5) []), .none, .dec false, .none, .none, (.call (.bool y_6) []), .none, .none, .dec false, .none, .none, .none, .none, .dec false] ?_ ?_
          · apply prop_of ?_ hq
            kernel_rfl
          refine XS.reAny [0] (mkMask 38 [1, 23]) (decide (t_Code > (2 : Int))) h ?_
          kernel_rfl
end Go.Proofs.Ytbodjbpgdkkohaa
