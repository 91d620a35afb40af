/- Functions of the program, as functions of values. -/
import Derived.Test.YthihcmehaekiiaaDoorAm29
import Derived.Test.YthihcmehaekiiaaDoorShelf
import Derived.Test.YthihcmehaekiiaaDoorChecked
namespace Go.Proofs.YthihcmehaekiiaaDoor
open Go Go.RowKit
set_option linter.unusedVariables false
set_option maxRecDepth 100000

/-! strings.Trim -/
def F40 (n : Nat) (s : List UInt8) (cutset : List UInt8) : Option (List UInt8) := bif decide (s.length ≤ 9223372036854775807 ∧ cutset.length < 4294967281 ∧ ((cutset : List UInt8).all fun b => decide (b.toNat < 128)) = true) then some (Lib.trimS s cutset) else none
theorem F40_ok (n : Nat) (s : List UInt8) (cutset : List UInt8) (r : List UInt8) (h : F40 n s cutset = some r) : PureC Tryd.prog 40 [(.str s), (.str cutset)] (.str r) [] := by
  unfold F40 at h
  obtain ⟨c, h⟩ := test_some h
  obtain rfl := Option.some.inj h
  exact PureC.trim s cutset (of_decide_eq_true c) (fun s c w h1 h2 h3 => Any.strings_Trim_laid Tryd.lays160 (by kernel_rfl) s c w h1 h2 h3)

/-! plugtree/lane.is -/
def F28 (n : Nat) (s : List UInt8) (chars : List UInt8) : Option Bool := ((F40 n s chars).bind fun y_2 => (some (y_2 == ([] : List UInt8))))
theorem F28_ok (n : Nat) (s : List UInt8) (chars : List UInt8) (r : Bool) (h : F28 n s chars = some r) : PureC Tryd.prog 28 [(.str s), (.str chars)] (.bool r) [] := by
  refine PureC.mkS Tryd.func28 rfl rfl ?_
  intro w0 fz0 hfz
  replace h : ((F40 n s chars).bind fun y_2 => (some (y_2 == ([] : List UInt8)))) = some r := h
  refine TS.seq ?_
  have hq : (True) ∧ (True) := ⟨trivial, trivial⟩
  refine TS.reg [] ?_ ?_
  · apply prop_of ?_ hq
    kernel_rfl
  refine XS.then ?_
  refine TS.seq ?_
  obtain ⟨y_2, hx1, h⟩ := bind_some' h
  have hq : (True) ∧ ((True) ∧ ((PureC Tryd.prog 40 [(.str s), (.str chars)] (.str y_2) []) ∧ ((True) ∧ ((True) ∧ (True))))) := ⟨trivial, ⟨trivial, ⟨F40_ok n s chars y_2 hx1, ⟨trivial, ⟨trivial, trivial⟩⟩⟩⟩⟩
  refine TS.reg [.none, .none, (.call (.str y_2) [])] ?_ ?_
  · apply prop_of ?_ hq
    kernel_rfl
  refine XS.then ?_
  refine TS.ret ?_
  obtain rfl : (y_2 == ([] : List UInt8)) = r := Option.some.inj h
  exact XS.fin [] ((True) ∧ (True)) (by kernel_rfl) ⟨trivial, trivial⟩

/-! plugtree/lane.other -/
def F29 (n : Nat) (level : Int) : Option Int := (some (IntKind.wrap .u8 ((149 : Int) - level)))
theorem F29_ok (n : Nat) (level : Int) (r : Int) (h : F29 n level = some r) : PureC Tryd.prog 29 [(.int .u8 level)] (.int .u8 r) [] := by
  refine PureC.mkS Tryd.func29 rfl rfl ?_
  intro w0 fz0 hfz
  replace h : (some (IntKind.wrap .u8 ((149 : Int) - level))) = some r := h
  refine TS.seq ?_
  have hq : (True) ∧ (True) := ⟨trivial, trivial⟩
  refine TS.reg [] ?_ ?_
  · apply prop_of ?_ hq
    kernel_rfl
  refine XS.then ?_
  refine TS.seq ?_
  have hq : (True) ∧ ((True) ∧ ((True) ∧ (True))) := ⟨trivial, ⟨trivial, ⟨trivial, trivial⟩⟩⟩
  refine TS.reg [] ?_ ?_
  · apply prop_of ?_ hq
    kernel_rfl
  refine XS.then ?_
  refine TS.ret ?_
  obtain rfl : (IntKind.wrap .u8 ((149 : Int) - level)) = r := Option.some.inj h
  exact XS.fin [] ((True) ∧ (True)) (by kernel_rfl) ⟨trivial, trivial⟩

/-! plugtree/lane.Turn -/
def F9_j10 (n : Nat) (k9_9 : (Int × Int × (List Int)) → Option ((List UInt8) × Int)) (x_2 : Int) (m0 : List Int) : Int → Option ((List UInt8) × Int)
  | level_3 => (bif inb x_2 m0.length then (k9_9 (level_3, (IntKind.wrap .i64 (x_2 + (1 : Int))), (m0.set x_2.toNat level_3))) else none)
def F9_l9 (n : Nat) (row : List UInt8) (k9_9 : (Int × Int × (List Int)) → Option ((List UInt8) × Int)) : (Int × Int × (List Int)) → Option ((List UInt8) × Int)
  | (level_2, x_2, m0) => (bif (decide (x_2 < (((List.replicate ((row.length : Nat) : Int).toNat (0 : Int)).length : Nat) : Int))) then (bif inb x_2 row.length then (bif ((((row.getD x_2.toNat 0).toNat : Nat) : Int) == (48 : Int)) then ((F29 n level_2).bind fun y_3 => (F9_j10 n k9_9 x_2 m0 y_3)) else (F9_j10 n k9_9 x_2 m0 level_2)) else none) else (some ((strOf m0), (0 : Int))))
def F9_j6 (n : Nat) (row : List UInt8) (level : Int) : Bool → Option ((List UInt8) × Int)
  | x => (bif x then (some (([] : List UInt8), (1 : Int))) else (bif (decide (0 ≤ ((row.length : Nat) : Int) ∧ (((row.length : Nat) : Int) ≤ ((row.length : Nat) : Int) ∧ ((row.length : Nat) : Int) * 1 ≤ 140737488355328))) then (loopF (F9_l9 n row) n (level, (0 : Int), (List.replicate ((row.length : Nat) : Int).toNat (0 : Int)))) else none))
def F9 (n : Nat) (row : List UInt8) (level : Int) : Option ((List UInt8) × Int) := ((F28 n row ([48, 49] : List UInt8)).bind fun y_4 => (bif (!y_4) then (F9_j6 n row level true) else (bif (level != (74 : Int)) then (F9_j6 n row level (level != (75 : Int))) else (F9_j6 n row level false))))
theorem F9_ok (n : Nat) (row : List UInt8) (level : Int) (r : (List UInt8) × Int) (h : F9 n row level = some r) : PureC Tryd.prog 9 [(.str row), (.int .u8 level)] (.tup (.cons (.str r.1) (.cons (.int .i64 r.2) .nil))) [] := by
  refine PureC.mkS Tryd.func9 rfl rfl ?_
  intro w0 fz0 hfz
  replace h : ((F28 n row ([48, 49] : List UInt8)).bind fun y_4 => (bif (!y_4) then (F9_j6 n row level true) else (bif (level != (74 : Int)) then (F9_j6 n row level (level != (75 : Int))) else (F9_j6 n row level false)))) = some r := h
  refine TS.seq ?_
  have hq : (True) ∧ ((True) ∧ (True)) := ⟨trivial, ⟨trivial, trivial⟩⟩
  refine TS.reg [] ?_ ?_
  · apply prop_of ?_ hq
    kernel_rfl
  refine XS.then ?_
  refine TS.seq ?_
  refine TS.seq ?_
  refine TS.cut (D := Bool) (fun d => match d with | x => (mkTs 40 [(0, (.str row)), (1, (.int .u8 level)), (18, (.bool x))], [])) (fun d => F9_j6 n row level d = some r) ?_ ?_
  · rintro x h
    replace h : (bif x then (some (([] : List UInt8), (1 : Int))) else (bif (decide (0 ≤ ((row.length : Nat) : Int) ∧ (((row.length : Nat) : Int) ≤ ((row.length : Nat) : Int) ∧ ((row.length : Nat) : Int) * 1 ≤ 140737488355328))) then (loopF (F9_l9 n row) n (level, (0 : Int), (List.replicate ((row.length : Nat) : Int).toNat (0 : Int)))) else none)) = some r := h
    refine XS.then ?_
    rcases bif_some h with ⟨c1, h⟩ | ⟨c2, h⟩
    · refine TS.cond x ?_ (fun hcz => ?_) (fun hcz => by rw [c1] at hcz; cases hcz)
      · kernel_rfl
      refine TS.seq ?_
      have hq : (True) ∧ ((True) ∧ (True)) := ⟨trivial, ⟨trivial, trivial⟩⟩
      refine TS.reg [] ?_ ?_
      · apply prop_of ?_ hq
        kernel_rfl
      refine XS.then ?_
      refine TS.ret ?_
      refine XS.passR ?_
      obtain rfl : (([] : List UInt8), (1 : Int)) = r := Option.some.inj h
      exact XS.fin [] ((True) ∧ ((True) ∧ (True))) (by kernel_rfl) ⟨trivial, ⟨trivial, trivial⟩⟩
    · refine TS.cond x ?_ (fun hcz => by rw [c2] at hcz; cases hcz) (fun hcz => ?_)
      · kernel_rfl
      refine TS.skip ?_
      refine XS.then ?_
      refine TS.seq ?_
      obtain ⟨t3, h⟩ := test_some h
      have hq : (True) ∧ ((True) ∧ ((0 ≤ ((row.length : Nat) : Int) ∧ (((row.length : Nat) : Int) ≤ ((row.length : Nat) : Int) ∧ ((row.length : Nat) : Int) * 1 ≤ 140737488355328)) ∧ ((True) ∧ (True)))) := ⟨trivial, ⟨trivial, ⟨of_decide_eq_true t3, ⟨trivial, trivial⟩⟩⟩⟩
      refine TS.reg [.none, .none, .sel] ?_ ?_
      · apply prop_of ?_ hq
        kernel_rfl
      refine XS.then ?_
      refine TS.seq ?_
      refine TS.seq ?_
      have hq : (True) ∧ ((True) ∧ ((True) ∧ (True))) := ⟨trivial, ⟨trivial, ⟨trivial, trivial⟩⟩⟩
      refine TS.reg [] ?_ ?_
      · apply prop_of ?_ hq
        kernel_rfl
      refine XS.then ?_
      refine TS.block ?_
      refine TS.reLoop [0] (mkMask 40 [0, 1, 6, 23, 24]) (D := Int × Int × (List Int)) (fun d => match d with | (level_2, x_2, m0) => (mkTs 40 [(0, (.str row)), (1, (.int .u8 level_2)), (6, (.row 0)), (23, (.int .i64 (((List.replicate ((row.length : Nat) : Int).toNat (0 : Int)).length : Nat) : Int))), (24, (.int .i64 x_2))], [(.row 5 (.int .u8) m0)])) (fun n' d => loopF (F9_l9 n row) n' d = some r) n (level, (0 : Int), (List.replicate ((row.length : Nat) : Int).toNat (0 : Int))) h ?_ (fun d => loopF_zero _ d r) ?_
      · kernel_rfl
      · rintro n9 ⟨level_2, x_2, m0⟩ h
        replace h : (bif (decide (x_2 < (((List.replicate ((row.length : Nat) : Int).toNat (0 : Int)).length : Nat) : Int))) then (bif inb x_2 row.length then (bif ((((row.getD x_2.toNat 0).toNat : Nat) : Int) == (48 : Int)) then ((F29 n level_2).bind fun y_3 => (F9_j10 n (loopF (F9_l9 n row) n9) x_2 m0 y_3)) else (F9_j10 n (loopF (F9_l9 n row) n9) x_2 m0 level_2)) else none) else (some ((strOf m0), (0 : Int)))) = some r := h
        refine TS.seq ?_
        have hq : (True) ∧ (True) := ⟨trivial, trivial⟩
        refine TS.reg [] ?_ ?_
        · apply prop_of ?_ hq
          kernel_rfl
        refine XS.then ?_
        refine TS.seq ?_
        rcases bif_some h with ⟨c4, h⟩ | ⟨c5, h⟩
        · refine TS.cond (decide (x_2 < (((List.replicate ((row.length : Nat) : Int).toNat (0 : Int)).length : Nat) : Int))) ?_ (fun hcz => ?_) (fun hcz => by rw [c4] at hcz; cases hcz)
          · kernel_rfl
          refine TS.skip ?_
          refine XS.then ?_
          refine TS.seq ?_
          refine TS.block ?_
          refine TS.seq ?_
          have hq : (True) ∧ ((True) ∧ (True)) := ⟨trivial, ⟨trivial, trivial⟩⟩
          refine TS.reg [] ?_ ?_
          · apply prop_of ?_ hq
            kernel_rfl
          refine XS.then ?_
          refine TS.seq ?_
          refine TS.seq ?_
          obtain ⟨t6, h⟩ := test_some h
          have hq : (True) ∧ ((True) ∧ ((inR x_2 row.length) ∧ ((True) ∧ (True)))) := ⟨trivial, ⟨trivial, ⟨inb_ok t6, ⟨trivial, trivial⟩⟩⟩⟩
          refine TS.reg [] ?_ ?_
          · apply prop_of ?_ hq
            kernel_rfl
          refine XS.then ?_
          refine TS.cut (D := Int) (fun d => match d with | level_3 => (mkTs 40 [(0, (.str row)), (1, (.int .u8 level_3)), (6, (.row 0)), (7, (.int .i64 x_2)), (23, (.int .i64 (((List.replicate ((row.length : Nat) : Int).toNat (0 : Int)).length : Nat) : Int))), (24, (.int .i64 x_2))], [(.row 5 (.int .u8) m0)])) (fun d => F9_j10 n (loopF (F9_l9 n row) n9) x_2 m0 d = some r) ?_ ?_
          · rintro level_3 h
            replace h : (bif inb x_2 m0.length then ((loopF (F9_l9 n row) n9) (level_3, (IntKind.wrap .i64 (x_2 + (1 : Int))), (m0.set x_2.toNat level_3))) else none) = some r := h
            refine XS.then ?_
            obtain ⟨t7, h⟩ := test_some h
            have hq : (True) ∧ ((True) ∧ ((True) ∧ ((inR x_2 m0.length) ∧ (((x_2.toNat < m0.length ∧ (True)) ∧ m0.length = m0.length) ∧ (True))))) := ⟨trivial, ⟨trivial, ⟨trivial, ⟨inb_ok t7, ⟨⟨⟨inR_lt (inb_ok t7), trivial⟩, rfl⟩, trivial⟩⟩⟩⟩⟩
            refine TS.reg [] ?_ ?_
            · apply prop_of ?_ hq
              kernel_rfl
            refine XS.blockEnd ?_
            refine XS.then ?_
            have hq : (True) ∧ ((True) ∧ (True)) := ⟨trivial, ⟨trivial, trivial⟩⟩
            refine TS.reg [] ?_ ?_
            · apply prop_of ?_ hq
              kernel_rfl
            refine XS.reAny [0] (mkMask 40 [0, 1, 6, 23, 24]) (level_3, (IntKind.wrap .i64 (x_2 + (1 : Int))), (m0.set x_2.toNat level_3)) h ?_
            kernel_rfl
          · rcases bif_some h with ⟨c8, h⟩ | ⟨c9, h⟩
            · refine TS.cond ((((row.getD x_2.toNat 0).toNat : Nat) : Int) == (48 : Int)) ?_ (fun hcz => ?_) (fun hcz => by rw [c8] at hcz; cases hcz)
              · kernel_rfl
              obtain ⟨y_3, hx10, h⟩ := bind_some' h
              have hq : (True) ∧ ((PureC Tryd.prog 29 [(.int .u8 level_2)] (.int .u8 y_3) []) ∧ ((True) ∧ (True))) := ⟨trivial, ⟨F29_ok n level_2 y_3 hx10, ⟨trivial, trivial⟩⟩⟩
              refine TS.reg [.none, (.call (.int .u8 y_3) [])] ?_ ?_
              · apply prop_of ?_ hq
                kernel_rfl
              refine XS.reAny [0] (mkMask 40 [0, 1, 6, 7, 23, 24]) y_3 h ?_
              kernel_rfl
            · refine TS.cond ((((row.getD x_2.toNat 0).toNat : Nat) : Int) == (48 : Int)) ?_ (fun hcz => by rw [c9] at hcz; cases hcz) (fun hcz => ?_)
              · kernel_rfl
              refine TS.skip ?_
              refine XS.reAny [0] (mkMask 40 [0, 1, 6, 7, 23, 24]) level_2 h ?_
              kernel_rfl
        · refine TS.cond (decide (x_2 < (((List.replicate ((row.length : Nat) : Int).toNat (0 : Int)).length : Nat) : Int))) ?_ (fun hcz => by rw [c5] at hcz; cases hcz) (fun hcz => ?_)
          · kernel_rfl
          refine TS.exit ?_
          refine XS.passE ?_
          refine XS.passE ?_
          refine XS.out ?_
          refine XS.then ?_
          refine TS.seq ?_
          have hq : (True) ∧ ((True) ∧ ((True) ∧ ((True) ∧ (True)))) := ⟨trivial, ⟨trivial, ⟨trivial, ⟨trivial, trivial⟩⟩⟩⟩
          refine TS.reg [] ?_ ?_
          · apply prop_of ?_ hq
            kernel_rfl
          refine XS.then ?_
          refine TS.ret ?_
          obtain rfl : ((strOf m0), (0 : Int)) = r := Option.some.inj h
          exact XS.fin [] ((True) ∧ ((True) ∧ (True))) (by kernel_rfl) ⟨trivial, ⟨trivial, trivial⟩⟩
  · obtain ⟨y_4, hx11, h⟩ := bind_some' h
    rcases bif_some h with ⟨c12, h⟩ | ⟨c13, h⟩
    · have hq : (True) ∧ ((PureC Tryd.prog 28 [(.str row), (.str ([48, 49] : List UInt8))] (.bool y_4) []) ∧ ((True) ∧ (((True) ∧ (!y_4) = true) ∧ ((True) ∧ (True))))) := ⟨trivial, ⟨F28_ok n row ([48, 49] : List UInt8) y_4 hx11, ⟨trivial, ⟨⟨trivial, c12⟩, ⟨trivial, trivial⟩⟩⟩⟩⟩
      refine TS.reg [.none, (.call (.bool y_4) []), .none, .dec true] ?_ ?_
      · apply prop_of ?_ hq
        kernel_rfl
      refine XS.reAny [] (mkMask 40 [0, 1, 18]) true h ?_
      kernel_rfl
    · rcases bif_some h with ⟨c14, h⟩ | ⟨c15, h⟩
      · have hq : (True) ∧ ((PureC Tryd.prog 28 [(.str row), (.str ([48, 49] : List UInt8))] (.bool y_4) []) ∧ ((True) ∧ (((True) ∧ (!y_4) = false) ∧ ((True) ∧ ((True) ∧ (((True) ∧ (level != (74 : Int)) = true) ∧ ((True) ∧ ((True) ∧ ((True) ∧ ((True) ∧ (True))))))))))) := ⟨trivial, ⟨F28_ok n row ([48, 49] : List UInt8) y_4 hx11, ⟨trivial, ⟨⟨trivial, c13⟩, ⟨trivial, ⟨trivial, ⟨⟨trivial, c14⟩, ⟨trivial, ⟨trivial, ⟨trivial, ⟨trivial, trivial⟩⟩⟩⟩⟩⟩⟩⟩⟩⟩⟩
        refine TS.reg [.none, (.call (.bool y_4) []), .none, .dec false, .none, .none, .dec true] ?_ ?_
        · apply prop_of ?_ hq
          kernel_rfl
        refine XS.reAny [] (mkMask 40 [0, 1, 18]) (level != (75 : Int)) h ?_
        kernel_rfl
      · have hq : (True) ∧ ((PureC Tryd.prog 28 [(.str row), (.str ([48, 49] : List UInt8))] (.bool y_4) []) ∧ ((True) ∧ (((True) ∧ (!y_4) = false) ∧ ((True) ∧ ((True) ∧ (((True) ∧ (level != (74 : Int)) = false) ∧ ((True) ∧ ((True) ∧ (True))))))))) := ⟨trivial, ⟨F28_ok n row ([48, 49] : List UInt8) y_4 hx11, ⟨trivial, ⟨⟨trivial, c13⟩, ⟨trivial, ⟨trivial, ⟨⟨trivial, c15⟩, ⟨trivial, ⟨trivial, trivial⟩⟩⟩⟩⟩⟩⟩⟩⟩
        refine TS.reg [.none, (.call (.bool y_4) []), .none, .dec false, .none, .none, .dec false] ?_ ?_
        · apply prop_of ?_ hq
          kernel_rfl
        refine XS.reAny [] (mkMask 40 [0, 1, 18]) false h ?_
        kernel_rfl

/-! strings.IndexByte -/
def F43 (n : Nat) (s : List UInt8) (c : Int) : Option Int := some (Lib.indexByte s (c).toNat.toUInt8)
theorem F43_ok (n : Nat) (s : List UInt8) (c : Int) (r : Int) (h : F43 n s c = some r) : PureC Tryd.prog 43 [(.str s), (.int .u8 c)] (.int .i64 r) [] := by
  unfold F43 at h
  obtain rfl := Option.some.inj h
  exact PureC.textByte s c _ (fun w => by simpa using Tryd.strings_IndexByte ⟨s.toArray⟩ c w)

/-! plugtree/plugref.only -/
def F30_l2 (n : Nat) (s : List UInt8) (signs : List UInt8) (k30_2 : Int → Option Bool) : Int → Option Bool
  | x => (bif (decide (x < ((s.length : Nat) : Int))) then (bif inb x s.length then ((F43 n signs (((s.getD x.toNat 0).toNat : Nat) : Int)).bind fun y_2 => (bif (decide (y_2 < (0 : Int))) then (some false) else (k30_2 (IntKind.wrap .i64 (x + (1 : Int)))))) else none) else (some true))
def F30 (n : Nat) (s : List UInt8) (signs : List UInt8) : Option Bool := (loopF (F30_l2 n s signs) n (0 : Int))
theorem F30_ok (n : Nat) (s : List UInt8) (signs : List UInt8) (r : Bool) (h : F30 n s signs = some r) : PureC Tryd.prog 30 [(.str s), (.str signs)] (.bool r) [] := by
  refine PureC.mkS Tryd.func30 rfl rfl ?_
  intro w0 fz0 hfz
  replace h : (loopF (F30_l2 n s signs) n (0 : Int)) = some r := h
  refine TS.seq ?_
  have hq : (True) ∧ (True) := ⟨trivial, trivial⟩
  refine TS.reg [] ?_ ?_
  · apply prop_of ?_ hq
    kernel_rfl
  refine XS.then ?_
  refine TS.seq ?_
  refine TS.seq ?_
  have hq : (True) ∧ ((True) ∧ ((True) ∧ (True))) := ⟨trivial, ⟨trivial, ⟨trivial, trivial⟩⟩⟩
  refine TS.reg [] ?_ ?_
  · apply prop_of ?_ hq
    kernel_rfl
  refine XS.then ?_
  refine TS.block ?_
  refine TS.reLoop [] (mkMask 18 [0, 1, 7, 8]) (D := Int) (fun d => match d with | x => (mkTs 18 [(0, (.str s)), (1, (.str signs)), (7, (.int .i64 ((s.length : Nat) : Int))), (8, (.int .i64 x))], [])) (fun n' d => loopF (F30_l2 n s signs) n' d = some r) n (0 : Int) h ?_ (fun d => loopF_zero _ d r) ?_
  · kernel_rfl
  · rintro n2 x h
    replace h : (bif (decide (x < ((s.length : Nat) : Int))) then (bif inb x s.length then ((F43 n signs (((s.getD x.toNat 0).toNat : Nat) : Int)).bind fun y_2 => (bif (decide (y_2 < (0 : Int))) then (some false) else ((loopF (F30_l2 n s signs) n2) (IntKind.wrap .i64 (x + (1 : Int)))))) else none) else (some true)) = some r := h
    refine TS.seq ?_
    have hq : (True) ∧ (True) := ⟨trivial, trivial⟩
    refine TS.reg [] ?_ ?_
    · apply prop_of ?_ hq
      kernel_rfl
    refine XS.then ?_
    refine TS.seq ?_
    rcases bif_some h with ⟨c1, h⟩ | ⟨c2, h⟩
    · refine TS.cond (decide (x < ((s.length : Nat) : Int))) ?_ (fun hcz => ?_) (fun hcz => by rw [c1] at hcz; cases hcz)
      · kernel_rfl
      refine TS.skip ?_
      refine XS.then ?_
      refine TS.seq ?_
      refine TS.block ?_
      refine TS.seq ?_
      have hq : (True) ∧ ((True) ∧ (True)) := ⟨trivial, ⟨trivial, trivial⟩⟩
      refine TS.reg [] ?_ ?_
      · apply prop_of ?_ hq
        kernel_rfl
      refine XS.then ?_
      refine TS.seq ?_
      obtain ⟨t3, h⟩ := test_some h
      obtain ⟨y_2, hx4, h⟩ := bind_some' h
      have hq : (True) ∧ ((True) ∧ ((True) ∧ ((inR x s.length) ∧ ((PureC Tryd.prog 43 [(.str signs), (.int .u8 (((s.getD x.toNat 0).toNat : Nat) : Int))] (.int .i64 y_2) []) ∧ ((True) ∧ (True)))))) := ⟨trivial, ⟨trivial, ⟨trivial, ⟨inb_ok t3, ⟨F43_ok n signs (((s.getD x.toNat 0).toNat : Nat) : Int) y_2 hx4, ⟨trivial, trivial⟩⟩⟩⟩⟩⟩
      refine TS.reg [.none, .none, .none, .none, (.call (.int .i64 y_2) [])] ?_ ?_
      · apply prop_of ?_ hq
        kernel_rfl
      refine XS.then ?_
      rcases bif_some h with ⟨c5, h⟩ | ⟨c6, h⟩
      · refine TS.cond (decide (y_2 < (0 : Int))) ?_ (fun hcz => ?_) (fun hcz => by rw [c5] at hcz; cases hcz)
        · kernel_rfl
        refine TS.seq ?_
        have hq : (True) ∧ (True) := ⟨trivial, trivial⟩
        refine TS.reg [] ?_ ?_
        · apply prop_of ?_ hq
          kernel_rfl
        refine XS.then ?_
        refine TS.ret ?_
        refine XS.blockRet ?_
        refine XS.passR ?_
        refine XS.passR ?_
        refine XS.blockRet ?_
        refine XS.passR ?_
        obtain rfl : false = r := Option.some.inj h
        exact XS.fin [] ((True) ∧ (True)) (by kernel_rfl) ⟨trivial, trivial⟩
      · refine TS.cond (decide (y_2 < (0 : Int))) ?_ (fun hcz => by rw [c6] at hcz; cases hcz) (fun hcz => ?_)
        · kernel_rfl
        refine TS.skip ?_
        refine XS.blockEnd ?_
        refine XS.then ?_
        have hq : (True) ∧ ((True) ∧ (True)) := ⟨trivial, ⟨trivial, trivial⟩⟩
        refine TS.reg [] ?_ ?_
        · apply prop_of ?_ hq
          kernel_rfl
        refine XS.reAny [] (mkMask 18 [0, 1, 7, 8]) (IntKind.wrap .i64 (x + (1 : Int))) h ?_
        kernel_rfl
    · refine TS.cond (decide (x < ((s.length : Nat) : Int))) ?_ (fun hcz => by rw [c2] at hcz; cases hcz) (fun hcz => ?_)
      · kernel_rfl
      refine TS.exit ?_
      refine XS.passE ?_
      refine XS.passE ?_
      refine XS.out ?_
      refine XS.then ?_
      refine TS.seq ?_
      have hq : (True) ∧ (True) := ⟨trivial, trivial⟩
      refine TS.reg [] ?_ ?_
      · apply prop_of ?_ hq
        kernel_rfl
      refine XS.then ?_
      refine TS.ret ?_
      obtain rfl : true = r := Option.some.inj h
      exact XS.fin [] ((True) ∧ (True)) (by kernel_rfl) ⟨trivial, trivial⟩

/-! plugtree/plugref.Other -/
def F31 (n : Nat) (level : Int) : Option Int := (bif (level == (74 : Int)) then (some (75 : Int)) else (some (74 : Int)))
theorem F31_ok (n : Nat) (level : Int) (r : Int) (h : F31 n level = some r) : PureC Tryd.prog 31 [(.int .u8 level)] (.int .u8 r) [] := by
  refine PureC.mkS Tryd.func31 rfl rfl ?_
  intro w0 fz0 hfz
  replace h : (bif (level == (74 : Int)) then (some (75 : Int)) else (some (74 : Int))) = some r := h
  refine TS.seq ?_
  have hq : (True) ∧ (True) := ⟨trivial, trivial⟩
  refine TS.reg [] ?_ ?_
  · apply prop_of ?_ hq
    kernel_rfl
  refine XS.then ?_
  refine TS.seq ?_
  refine TS.seq ?_
  have hq : (True) ∧ ((True) ∧ (True)) := ⟨trivial, ⟨trivial, trivial⟩⟩
  refine TS.reg [] ?_ ?_
  · apply prop_of ?_ hq
    kernel_rfl
  refine XS.then ?_
  rcases bif_some h with ⟨c1, h⟩ | ⟨c2, h⟩
  · refine TS.cond (level == (74 : Int)) ?_ (fun hcz => ?_) (fun hcz => by rw [c1] at hcz; cases hcz)
    · kernel_rfl
    refine TS.seq ?_
    have hq : (True) ∧ (True) := ⟨trivial, trivial⟩
    refine TS.reg [] ?_ ?_
    · apply prop_of ?_ hq
      kernel_rfl
    refine XS.then ?_
    refine TS.ret ?_
    refine XS.passR ?_
    obtain rfl : (75 : Int) = r := Option.some.inj h
    exact XS.fin [] ((True) ∧ (True)) (by kernel_rfl) ⟨trivial, trivial⟩
  · refine TS.cond (level == (74 : Int)) ?_ (fun hcz => by rw [c2] at hcz; cases hcz) (fun hcz => ?_)
    · kernel_rfl
    refine TS.skip ?_
    refine XS.then ?_
    refine TS.seq ?_
    have hq : (True) ∧ (True) := ⟨trivial, trivial⟩
    refine TS.reg [] ?_ ?_
    · apply prop_of ?_ hq
      kernel_rfl
    refine XS.then ?_
    refine TS.ret ?_
    obtain rfl : (74 : Int) = r := Option.some.inj h
    exact XS.fin [] ((True) ∧ (True)) (by kernel_rfl) ⟨trivial, trivial⟩

/-! plugtree/plugref.Turn -/
def F10_j10 (n : Nat) (k10_9 : (Int × Int × (List Int)) → Option ((List UInt8) × Int)) (level : Int) (x_2 : Int) (m0 : List Int) : Int → Option ((List UInt8) × Int)
  | zeros_2 => (bif inb x_2 m0.length then (bif ((zeros_2.tmod (2 : Int)) == (1 : Int)) then ((F31 n level).bind fun y_3 => (bif inb x_2 ((m0.set x_2.toNat level).length) then (k10_9 (zeros_2, (IntKind.wrap .i64 (x_2 + (1 : Int))), ((m0.set x_2.toNat level).set x_2.toNat y_3))) else none)) else (k10_9 (zeros_2, (IntKind.wrap .i64 (x_2 + (1 : Int))), (m0.set x_2.toNat level)))) else none)
def F10_l9 (n : Nat) (row : List UInt8) (level : Int) (k10_9 : (Int × Int × (List Int)) → Option ((List UInt8) × Int)) : (Int × Int × (List Int)) → Option ((List UInt8) × Int)
  | (zeros, x_2, m0) => (bif (decide (x_2 < (((List.replicate ((row.length : Nat) : Int).toNat (0 : Int)).length : Nat) : Int))) then (bif inb x_2 row.length then (bif ((((row.getD x_2.toNat 0).toNat : Nat) : Int) == (48 : Int)) then (F10_j10 n k10_9 level x_2 m0 (IntKind.wrap .i64 (zeros + (1 : Int)))) else (F10_j10 n k10_9 level x_2 m0 zeros)) else none) else (some ((strOf m0), (0 : Int))))
def F10_j6 (n : Nat) (row : List UInt8) (level : Int) : Bool → Option ((List UInt8) × Int)
  | x => (bif x then (some (([] : List UInt8), (1 : Int))) else (bif (decide (0 ≤ ((row.length : Nat) : Int) ∧ (((row.length : Nat) : Int) ≤ ((row.length : Nat) : Int) ∧ ((row.length : Nat) : Int) * 1 ≤ 140737488355328))) then (loopF (F10_l9 n row level) n ((0 : Int), (0 : Int), (List.replicate ((row.length : Nat) : Int).toNat (0 : Int)))) else none))
def F10 (n : Nat) (row : List UInt8) (level : Int) : Option ((List UInt8) × Int) := ((F30 n row ([48, 49] : List UInt8)).bind fun y_4 => (bif (!y_4) then (F10_j6 n row level true) else (bif (level != (74 : Int)) then (F10_j6 n row level (level != (75 : Int))) else (F10_j6 n row level false))))
theorem F10_ok (n : Nat) (row : List UInt8) (level : Int) (r : (List UInt8) × Int) (h : F10 n row level = some r) : PureC Tryd.prog 10 [(.str row), (.int .u8 level)] (.tup (.cons (.str r.1) (.cons (.int .i64 r.2) .nil))) [] := by
  refine PureC.mkS Tryd.func10 rfl rfl ?_
  intro w0 fz0 hfz
  replace h : ((F30 n row ([48, 49] : List UInt8)).bind fun y_4 => (bif (!y_4) then (F10_j6 n row level true) else (bif (level != (74 : Int)) then (F10_j6 n row level (level != (75 : Int))) else (F10_j6 n row level false)))) = some r := h
  refine TS.seq ?_
  have hq : (True) ∧ ((True) ∧ (True)) := ⟨trivial, ⟨trivial, trivial⟩⟩
  refine TS.reg [] ?_ ?_
  · apply prop_of ?_ hq
    kernel_rfl
  refine XS.then ?_
  refine TS.seq ?_
  refine TS.seq ?_
  refine TS.cut (D := Bool) (fun d => match d with | x => (mkTs 49 [(0, (.str row)), (1, (.int .u8 level)), (19, (.bool x))], [])) (fun d => F10_j6 n row level d = some r) ?_ ?_
  · rintro x h
    replace h : (bif x then (some (([] : List UInt8), (1 : Int))) else (bif (decide (0 ≤ ((row.length : Nat) : Int) ∧ (((row.length : Nat) : Int) ≤ ((row.length : Nat) : Int) ∧ ((row.length : Nat) : Int) * 1 ≤ 140737488355328))) then (loopF (F10_l9 n row level) n ((0 : Int), (0 : Int), (List.replicate ((row.length : Nat) : Int).toNat (0 : Int)))) else none)) = some r := h
    refine XS.then ?_
    rcases bif_some h with ⟨c1, h⟩ | ⟨c2, h⟩
    · refine TS.cond x ?_ (fun hcz => ?_) (fun hcz => by rw [c1] at hcz; cases hcz)
      · kernel_rfl
      refine TS.seq ?_
      have hq : (True) ∧ ((True) ∧ (True)) := ⟨trivial, ⟨trivial, trivial⟩⟩
      refine TS.reg [] ?_ ?_
      · apply prop_of ?_ hq
        kernel_rfl
      refine XS.then ?_
      refine TS.ret ?_
      refine XS.passR ?_
      obtain rfl : (([] : List UInt8), (1 : Int)) = r := Option.some.inj h
      exact XS.fin [] ((True) ∧ ((True) ∧ (True))) (by kernel_rfl) ⟨trivial, ⟨trivial, trivial⟩⟩
    · refine TS.cond x ?_ (fun hcz => by rw [c2] at hcz; cases hcz) (fun hcz => ?_)
      · kernel_rfl
      refine TS.skip ?_
      refine XS.then ?_
      refine TS.seq ?_
      obtain ⟨t3, h⟩ := test_some h
      have hq : (True) ∧ ((True) ∧ ((0 ≤ ((row.length : Nat) : Int) ∧ (((row.length : Nat) : Int) ≤ ((row.length : Nat) : Int) ∧ ((row.length : Nat) : Int) * 1 ≤ 140737488355328)) ∧ ((True) ∧ (True)))) := ⟨trivial, ⟨trivial, ⟨of_decide_eq_true t3, ⟨trivial, trivial⟩⟩⟩⟩
      refine TS.reg [.none, .none, .sel] ?_ ?_
      · apply prop_of ?_ hq
        kernel_rfl
      refine XS.then ?_
      refine TS.seq ?_
      have hq : (True) ∧ (True) := ⟨trivial, trivial⟩
      refine TS.reg [] ?_ ?_
      · apply prop_of ?_ hq
        kernel_rfl
      refine XS.then ?_
      refine TS.seq ?_
      refine TS.seq ?_
      have hq : (True) ∧ ((True) ∧ ((True) ∧ (True))) := ⟨trivial, ⟨trivial, ⟨trivial, trivial⟩⟩⟩
      refine TS.reg [] ?_ ?_
      · apply prop_of ?_ hq
        kernel_rfl
      refine XS.then ?_
      refine TS.block ?_
      refine TS.reLoop [0] (mkMask 49 [0, 1, 6, 7, 24, 25]) (D := Int × Int × (List Int)) (fun d => match d with | (zeros, x_2, m0) => (mkTs 49 [(0, (.str row)), (1, (.int .u8 level)), (6, (.row 0)), (7, (.int .i64 zeros)), (24, (.int .i64 (((List.replicate ((row.length : Nat) : Int).toNat (0 : Int)).length : Nat) : Int))), (25, (.int .i64 x_2))], [(.row 5 (.int .u8) m0)])) (fun n' d => loopF (F10_l9 n row level) n' d = some r) n ((0 : Int), (0 : Int), (List.replicate ((row.length : Nat) : Int).toNat (0 : Int))) h ?_ (fun d => loopF_zero _ d r) ?_
      · kernel_rfl
      · rintro n9 ⟨zeros, x_2, m0⟩ h
        replace h : (bif (decide (x_2 < (((List.replicate ((row.length : Nat) : Int).toNat (0 : Int)).length : Nat) : Int))) then (bif inb x_2 row.length then (bif ((((row.getD x_2.toNat 0).toNat : Nat) : Int) == (48 : Int)) then (F10_j10 n (loopF (F10_l9 n row level) n9) level x_2 m0 (IntKind.wrap .i64 (zeros + (1 : Int)))) else (F10_j10 n (loopF (F10_l9 n row level) n9) level x_2 m0 zeros)) else none) else (some ((strOf m0), (0 : Int)))) = some r := h
        refine TS.seq ?_
        have hq : (True) ∧ (True) := ⟨trivial, trivial⟩
        refine TS.reg [] ?_ ?_
        · apply prop_of ?_ hq
          kernel_rfl
        refine XS.then ?_
        refine TS.seq ?_
        rcases bif_some h with ⟨c4, h⟩ | ⟨c5, h⟩
        · refine TS.cond (decide (x_2 < (((List.replicate ((row.length : Nat) : Int).toNat (0 : Int)).length : Nat) : Int))) ?_ (fun hcz => ?_) (fun hcz => by rw [c4] at hcz; cases hcz)
          · kernel_rfl
          refine TS.skip ?_
          refine XS.then ?_
          refine TS.seq ?_
          refine TS.block ?_
          refine TS.seq ?_
          have hq : (True) ∧ ((True) ∧ (True)) := ⟨trivial, ⟨trivial, trivial⟩⟩
          refine TS.reg [] ?_ ?_
          · apply prop_of ?_ hq
            kernel_rfl
          refine XS.then ?_
          refine TS.seq ?_
          refine TS.seq ?_
          obtain ⟨t6, h⟩ := test_some h
          have hq : (True) ∧ ((True) ∧ ((inR x_2 row.length) ∧ ((True) ∧ (True)))) := ⟨trivial, ⟨trivial, ⟨inb_ok t6, ⟨trivial, trivial⟩⟩⟩⟩
          refine TS.reg [] ?_ ?_
          · apply prop_of ?_ hq
            kernel_rfl
          refine XS.then ?_
          refine TS.cut (D := Int) (fun d => match d with | zeros_2 => (mkTs 49 [(0, (.str row)), (1, (.int .u8 level)), (6, (.row 0)), (7, (.int .i64 zeros_2)), (8, (.int .i64 x_2)), (24, (.int .i64 (((List.replicate ((row.length : Nat) : Int).toNat (0 : Int)).length : Nat) : Int))), (25, (.int .i64 x_2))], [(.row 5 (.int .u8) m0)])) (fun d => F10_j10 n (loopF (F10_l9 n row level) n9) level x_2 m0 d = some r) ?_ ?_
          · rintro zeros_2 h
            replace h : (bif inb x_2 m0.length then (bif ((zeros_2.tmod (2 : Int)) == (1 : Int)) then ((F31 n level).bind fun y_3 => (bif inb x_2 ((m0.set x_2.toNat level).length) then ((loopF (F10_l9 n row level) n9) (zeros_2, (IntKind.wrap .i64 (x_2 + (1 : Int))), ((m0.set x_2.toNat level).set x_2.toNat y_3))) else none)) else ((loopF (F10_l9 n row level) n9) (zeros_2, (IntKind.wrap .i64 (x_2 + (1 : Int))), (m0.set x_2.toNat level)))) else none) = some r := h
            refine XS.then ?_
            refine TS.seq ?_
            obtain ⟨t7, h⟩ := test_some h
            have hq : (True) ∧ ((True) ∧ ((True) ∧ ((inR x_2 m0.length) ∧ (((x_2.toNat < m0.length ∧ (True)) ∧ m0.length = m0.length) ∧ (True))))) := ⟨trivial, ⟨trivial, ⟨trivial, ⟨inb_ok t7, ⟨⟨⟨inR_lt (inb_ok t7), trivial⟩, rfl⟩, trivial⟩⟩⟩⟩⟩
            refine TS.reg [] ?_ ?_
            · apply prop_of ?_ hq
              kernel_rfl
            refine XS.then ?_
            refine TS.seq ?_
            have hq : (True) ∧ (((2 : Int) ≠ 0) ∧ ((True) ∧ (True))) := ⟨trivial, ⟨by decide, ⟨trivial, trivial⟩⟩⟩
            refine TS.reg [] ?_ ?_
            · apply prop_of ?_ hq
              kernel_rfl
            refine XS.then ?_
            rcases bif_some h with ⟨c8, h⟩ | ⟨c9, h⟩
            · refine TS.cond ((zeros_2.tmod (2 : Int)) == (1 : Int)) ?_ (fun hcz => ?_) (fun hcz => by rw [c8] at hcz; cases hcz)
              · kernel_rfl
              obtain ⟨y_3, hx10, h⟩ := bind_some' h
              obtain ⟨t11, h⟩ := test_some h
              have hq : (True) ∧ ((True) ∧ ((True) ∧ ((PureC Tryd.prog 31 [(.int .u8 level)] (.int .u8 y_3) []) ∧ ((inR x_2 ((m0.set x_2.toNat level).length)) ∧ (((x_2.toNat < (m0.set x_2.toNat level).length ∧ (True)) ∧ (m0.set x_2.toNat level).length = (m0.set x_2.toNat level).length) ∧ (True)))))) := ⟨trivial, ⟨trivial, ⟨trivial, ⟨F31_ok n level y_3 hx10, ⟨inb_ok t11, ⟨⟨⟨inR_lt (inb_ok t11), trivial⟩, rfl⟩, trivial⟩⟩⟩⟩⟩⟩
              refine TS.reg [.none, .none, .none, (.call (.int .u8 y_3) [])] ?_ ?_
              · apply prop_of ?_ hq
                kernel_rfl
              refine XS.blockEnd ?_
              refine XS.then ?_
              have hq : (True) ∧ ((True) ∧ (True)) := ⟨trivial, ⟨trivial, trivial⟩⟩
              refine TS.reg [] ?_ ?_
              · apply prop_of ?_ hq
                kernel_rfl
              refine XS.reAny [0] (mkMask 49 [0, 1, 6, 7, 24, 25]) (zeros_2, (IntKind.wrap .i64 (x_2 + (1 : Int))), ((m0.set x_2.toNat level).set x_2.toNat y_3)) h ?_
              kernel_rfl
            · refine TS.cond ((zeros_2.tmod (2 : Int)) == (1 : Int)) ?_ (fun hcz => by rw [c9] at hcz; cases hcz) (fun hcz => ?_)
              · kernel_rfl
              refine TS.skip ?_
              refine XS.blockEnd ?_
              refine XS.then ?_
              have hq : (True) ∧ ((True) ∧ (True)) := ⟨trivial, ⟨trivial, trivial⟩⟩
              refine TS.reg [] ?_ ?_
              · apply prop_of ?_ hq
                kernel_rfl
              refine XS.reAny [0] (mkMask 49 [0, 1, 6, 7, 24, 25]) (zeros_2, (IntKind.wrap .i64 (x_2 + (1 : Int))), (m0.set x_2.toNat level)) h ?_
              kernel_rfl
          · rcases bif_some h with ⟨c12, h⟩ | ⟨c13, h⟩
            · refine TS.cond ((((row.getD x_2.toNat 0).toNat : Nat) : Int) == (48 : Int)) ?_ (fun hcz => ?_) (fun hcz => by rw [c12] at hcz; cases hcz)
              · kernel_rfl
              have hq : (True) ∧ ((True) ∧ ((True) ∧ (True))) := ⟨trivial, ⟨trivial, ⟨trivial, trivial⟩⟩⟩
              refine TS.reg [] ?_ ?_
              · apply prop_of ?_ hq
                kernel_rfl
              refine XS.reAny [0] (mkMask 49 [0, 1, 6, 7, 8, 24, 25]) (IntKind.wrap .i64 (zeros + (1 : Int))) h ?_
              kernel_rfl
            · refine TS.cond ((((row.getD x_2.toNat 0).toNat : Nat) : Int) == (48 : Int)) ?_ (fun hcz => by rw [c13] at hcz; cases hcz) (fun hcz => ?_)
              · kernel_rfl
              refine TS.skip ?_
              refine XS.reAny [0] (mkMask 49 [0, 1, 6, 7, 8, 24, 25]) zeros h ?_
              kernel_rfl
        · refine TS.cond (decide (x_2 < (((List.replicate ((row.length : Nat) : Int).toNat (0 : Int)).length : Nat) : Int))) ?_ (fun hcz => by rw [c5] at hcz; cases hcz) (fun hcz => ?_)
          · kernel_rfl
          refine TS.exit ?_
          refine XS.passE ?_
          refine XS.passE ?_
          refine XS.out ?_
          refine XS.then ?_
          refine TS.seq ?_
          have hq : (True) ∧ ((True) ∧ ((True) ∧ ((True) ∧ (True)))) := ⟨trivial, ⟨trivial, ⟨trivial, ⟨trivial, trivial⟩⟩⟩⟩
          refine TS.reg [] ?_ ?_
          · apply prop_of ?_ hq
            kernel_rfl
          refine XS.then ?_
          refine TS.ret ?_
          obtain rfl : ((strOf m0), (0 : Int)) = r := Option.some.inj h
          exact XS.fin [] ((True) ∧ ((True) ∧ (True))) (by kernel_rfl) ⟨trivial, ⟨trivial, trivial⟩⟩
  · obtain ⟨y_4, hx14, h⟩ := bind_some' h
    rcases bif_some h with ⟨c15, h⟩ | ⟨c16, h⟩
    · have hq : (True) ∧ ((PureC Tryd.prog 30 [(.str row), (.str ([48, 49] : List UInt8))] (.bool y_4) []) ∧ ((True) ∧ (((True) ∧ (!y_4) = true) ∧ ((True) ∧ (True))))) := ⟨trivial, ⟨F30_ok n row ([48, 49] : List UInt8) y_4 hx14, ⟨trivial, ⟨⟨trivial, c15⟩, ⟨trivial, trivial⟩⟩⟩⟩⟩
      refine TS.reg [.none, (.call (.bool y_4) []), .none, .dec true] ?_ ?_
      · apply prop_of ?_ hq
        kernel_rfl
      refine XS.reAny [] (mkMask 49 [0, 1, 19]) true h ?_
      kernel_rfl
    · rcases bif_some h with ⟨c17, h⟩ | ⟨c18, h⟩
      · have hq : (True) ∧ ((PureC Tryd.prog 30 [(.str row), (.str ([48, 49] : List UInt8))] (.bool y_4) []) ∧ ((True) ∧ (((True) ∧ (!y_4) = false) ∧ ((True) ∧ ((True) ∧ (((True) ∧ (level != (74 : Int)) = true) ∧ ((True) ∧ ((True) ∧ ((True) ∧ ((True) ∧ (True))))))))))) := ⟨trivial, ⟨F30_ok n row ([48, 49] : List UInt8) y_4 hx14, ⟨trivial, ⟨⟨trivial, c16⟩, ⟨trivial, ⟨trivial, ⟨⟨trivial, c17⟩, ⟨trivial, ⟨trivial, ⟨trivial, ⟨trivial, trivial⟩⟩⟩⟩⟩⟩⟩⟩⟩⟩⟩
        refine TS.reg [.none, (.call (.bool y_4) []), .none, .dec false, .none, .none, .dec true] ?_ ?_
        · apply prop_of ?_ hq
          kernel_rfl
        refine XS.reAny [] (mkMask 49 [0, 1, 19]) (level != (75 : Int)) h ?_
        kernel_rfl
      · have hq : (True) ∧ ((PureC Tryd.prog 30 [(.str row), (.str ([48, 49] : List UInt8))] (.bool y_4) []) ∧ ((True) ∧ (((True) ∧ (!y_4) = false) ∧ ((True) ∧ ((True) ∧ (((True) ∧ (level != (74 : Int)) = false) ∧ ((True) ∧ ((True) ∧ (True))))))))) := ⟨trivial, ⟨F30_ok n row ([48, 49] : List UInt8) y_4 hx14, ⟨trivial, ⟨⟨trivial, c16⟩, ⟨trivial, ⟨trivial, ⟨⟨trivial, c18⟩, ⟨trivial, ⟨trivial, trivial⟩⟩⟩⟩⟩⟩⟩⟩⟩
        refine TS.reg [.none, (.call (.bool y_4) []), .none, .dec false, .none, .none, .dec false] ?_ ?_
        · apply prop_of ?_ hq
          kernel_rfl
        refine XS.reAny [] (mkMask 49 [0, 1, 19]) false h ?_
        kernel_rfl

/-! plugtree/lane.Unturn -/
def F11_j10 (n : Nat) (k11_9 : (Int × Int × (List Int)) → Option ((List UInt8) × Int)) (levels : List UInt8) (x_2 : Int) : (List Int) → Option ((List UInt8) × Int)
  | m0_2 => (k11_9 ((((levels.getD x_2.toNat 0).toNat : Nat) : Int), (IntKind.wrap .i64 (x_2 + (1 : Int))), m0_2))
def F11_l9 (n : Nat) (levels : List UInt8) (k11_9 : (Int × Int × (List Int)) → Option ((List UInt8) × Int)) : (Int × Int × (List Int)) → Option ((List UInt8) × Int)
  | (level_2, x_2, m0) => (bif (decide (x_2 < (((List.replicate ((levels.length : Nat) : Int).toNat (0 : Int)).length : Nat) : Int))) then (bif inb x_2 m0.length then (bif inb x_2 levels.length then (bif ((((levels.getD x_2.toNat 0).toNat : Nat) : Int) != level_2) then (bif inb x_2 ((m0.set x_2.toNat (49 : Int)).length) then (F11_j10 n k11_9 levels x_2 ((m0.set x_2.toNat (49 : Int)).set x_2.toNat (48 : Int))) else none) else (F11_j10 n k11_9 levels x_2 (m0.set x_2.toNat (49 : Int)))) else none) else none) else (some ((strOf m0), (0 : Int))))
def F11_j6 (n : Nat) (levels : List UInt8) (level : Int) : Bool → Option ((List UInt8) × Int)
  | x => (bif x then (some (([] : List UInt8), (1 : Int))) else (bif (decide (0 ≤ ((levels.length : Nat) : Int) ∧ (((levels.length : Nat) : Int) ≤ ((levels.length : Nat) : Int) ∧ ((levels.length : Nat) : Int) * 1 ≤ 140737488355328))) then (loopF (F11_l9 n levels) n (level, (0 : Int), (List.replicate ((levels.length : Nat) : Int).toNat (0 : Int)))) else none))
def F11 (n : Nat) (levels : List UInt8) (level : Int) : Option ((List UInt8) × Int) := ((F28 n levels ([74, 75] : List UInt8)).bind fun y_3 => (bif (!y_3) then (F11_j6 n levels level true) else (bif (level != (74 : Int)) then (F11_j6 n levels level (level != (75 : Int))) else (F11_j6 n levels level false))))
theorem F11_ok (n : Nat) (levels : List UInt8) (level : Int) (r : (List UInt8) × Int) (h : F11 n levels level = some r) : PureC Tryd.prog 11 [(.str levels), (.int .u8 level)] (.tup (.cons (.str r.1) (.cons (.int .i64 r.2) .nil))) [] := by
  refine PureC.mkS Tryd.func11 rfl rfl ?_
  intro w0 fz0 hfz
  replace h : ((F28 n levels ([74, 75] : List UInt8)).bind fun y_3 => (bif (!y_3) then (F11_j6 n levels level true) else (bif (level != (74 : Int)) then (F11_j6 n levels level (level != (75 : Int))) else (F11_j6 n levels level false)))) = some r := h
  refine TS.seq ?_
  have hq : (True) ∧ ((True) ∧ (True)) := ⟨trivial, ⟨trivial, trivial⟩⟩
  refine TS.reg [] ?_ ?_
  · apply prop_of ?_ hq
    kernel_rfl
  refine XS.then ?_
  refine TS.seq ?_
  refine TS.seq ?_
  refine TS.cut (D := Bool) (fun d => match d with | x => (mkTs 44 [(0, (.str levels)), (1, (.int .u8 level)), (18, (.bool x))], [])) (fun d => F11_j6 n levels level d = some r) ?_ ?_
  · rintro x h
    replace h : (bif x then (some (([] : List UInt8), (1 : Int))) else (bif (decide (0 ≤ ((levels.length : Nat) : Int) ∧ (((levels.length : Nat) : Int) ≤ ((levels.length : Nat) : Int) ∧ ((levels.length : Nat) : Int) * 1 ≤ 140737488355328))) then (loopF (F11_l9 n levels) n (level, (0 : Int), (List.replicate ((levels.length : Nat) : Int).toNat (0 : Int)))) else none)) = some r := h
    refine XS.then ?_
    rcases bif_some h with ⟨c1, h⟩ | ⟨c2, h⟩
    · refine TS.cond x ?_ (fun hcz => ?_) (fun hcz => by rw [c1] at hcz; cases hcz)
      · kernel_rfl
      refine TS.seq ?_
      have hq : (True) ∧ ((True) ∧ (True)) := ⟨trivial, ⟨trivial, trivial⟩⟩
      refine TS.reg [] ?_ ?_
      · apply prop_of ?_ hq
        kernel_rfl
      refine XS.then ?_
      refine TS.ret ?_
      refine XS.passR ?_
      obtain rfl : (([] : List UInt8), (1 : Int)) = r := Option.some.inj h
      exact XS.fin [] ((True) ∧ ((True) ∧ (True))) (by kernel_rfl) ⟨trivial, ⟨trivial, trivial⟩⟩
    · refine TS.cond x ?_ (fun hcz => by rw [c2] at hcz; cases hcz) (fun hcz => ?_)
      · kernel_rfl
      refine TS.skip ?_
      refine XS.then ?_
      refine TS.seq ?_
      obtain ⟨t3, h⟩ := test_some h
      have hq : (True) ∧ ((True) ∧ ((0 ≤ ((levels.length : Nat) : Int) ∧ (((levels.length : Nat) : Int) ≤ ((levels.length : Nat) : Int) ∧ ((levels.length : Nat) : Int) * 1 ≤ 140737488355328)) ∧ ((True) ∧ (True)))) := ⟨trivial, ⟨trivial, ⟨of_decide_eq_true t3, ⟨trivial, trivial⟩⟩⟩⟩
      refine TS.reg [.none, .none, .sel] ?_ ?_
      · apply prop_of ?_ hq
        kernel_rfl
      refine XS.then ?_
      refine TS.seq ?_
      refine TS.seq ?_
      have hq : (True) ∧ ((True) ∧ ((True) ∧ (True))) := ⟨trivial, ⟨trivial, ⟨trivial, trivial⟩⟩⟩
      refine TS.reg [] ?_ ?_
      · apply prop_of ?_ hq
        kernel_rfl
      refine XS.then ?_
      refine TS.block ?_
      refine TS.reLoop [0] (mkMask 44 [0, 1, 6, 23, 24]) (D := Int × Int × (List Int)) (fun d => match d with | (level_2, x_2, m0) => (mkTs 44 [(0, (.str levels)), (1, (.int .u8 level_2)), (6, (.row 0)), (23, (.int .i64 (((List.replicate ((levels.length : Nat) : Int).toNat (0 : Int)).length : Nat) : Int))), (24, (.int .i64 x_2))], [(.row 5 (.int .u8) m0)])) (fun n' d => loopF (F11_l9 n levels) n' d = some r) n (level, (0 : Int), (List.replicate ((levels.length : Nat) : Int).toNat (0 : Int))) h ?_ (fun d => loopF_zero _ d r) ?_
      · kernel_rfl
      · rintro n9 ⟨level_2, x_2, m0⟩ h
        replace h : (bif (decide (x_2 < (((List.replicate ((levels.length : Nat) : Int).toNat (0 : Int)).length : Nat) : Int))) then (bif inb x_2 m0.length then (bif inb x_2 levels.length then (bif ((((levels.getD x_2.toNat 0).toNat : Nat) : Int) != level_2) then (bif inb x_2 ((m0.set x_2.toNat (49 : Int)).length) then (F11_j10 n (loopF (F11_l9 n levels) n9) levels x_2 ((m0.set x_2.toNat (49 : Int)).set x_2.toNat (48 : Int))) else none) else (F11_j10 n (loopF (F11_l9 n levels) n9) levels x_2 (m0.set x_2.toNat (49 : Int)))) else none) else none) else (some ((strOf m0), (0 : Int)))) = some r := h
        refine TS.seq ?_
        have hq : (True) ∧ (True) := ⟨trivial, trivial⟩
        refine TS.reg [] ?_ ?_
        · apply prop_of ?_ hq
          kernel_rfl
        refine XS.then ?_
        refine TS.seq ?_
        rcases bif_some h with ⟨c4, h⟩ | ⟨c5, h⟩
        · refine TS.cond (decide (x_2 < (((List.replicate ((levels.length : Nat) : Int).toNat (0 : Int)).length : Nat) : Int))) ?_ (fun hcz => ?_) (fun hcz => by rw [c4] at hcz; cases hcz)
          · kernel_rfl
          refine TS.skip ?_
          refine XS.then ?_
          refine TS.seq ?_
          refine TS.block ?_
          refine TS.seq ?_
          have hq : (True) ∧ ((True) ∧ (True)) := ⟨trivial, ⟨trivial, trivial⟩⟩
          refine TS.reg [] ?_ ?_
          · apply prop_of ?_ hq
            kernel_rfl
          refine XS.then ?_
          refine TS.seq ?_
          obtain ⟨t6, h⟩ := test_some h
          have hq : (True) ∧ ((True) ∧ ((inR x_2 m0.length) ∧ (((x_2.toNat < m0.length ∧ (True)) ∧ m0.length = m0.length) ∧ (True)))) := ⟨trivial, ⟨trivial, ⟨inb_ok t6, ⟨⟨⟨inR_lt (inb_ok t6), trivial⟩, rfl⟩, trivial⟩⟩⟩⟩
          refine TS.reg [] ?_ ?_
          · apply prop_of ?_ hq
            kernel_rfl
          refine XS.then ?_
          refine TS.seq ?_
          refine TS.seq ?_
          obtain ⟨t7, h⟩ := test_some h
          have hq : (True) ∧ ((True) ∧ ((inR x_2 levels.length) ∧ ((True) ∧ ((True) ∧ (True))))) := ⟨trivial, ⟨trivial, ⟨inb_ok t7, ⟨trivial, ⟨trivial, trivial⟩⟩⟩⟩⟩
          refine TS.reg [] ?_ ?_
          · apply prop_of ?_ hq
            kernel_rfl
          refine XS.then ?_
          refine TS.cut (D := List Int) (fun d => match d with | m0_2 => (mkTs 44 [(0, (.str levels)), (6, (.row 0)), (7, (.int .i64 x_2)), (23, (.int .i64 (((List.replicate ((levels.length : Nat) : Int).toNat (0 : Int)).length : Nat) : Int))), (24, (.int .i64 x_2))], [(.row 5 (.int .u8) m0_2)])) (fun d => F11_j10 n (loopF (F11_l9 n levels) n9) levels x_2 d = some r) ?_ ?_
          · rintro m0_2 h
            replace h : ((loopF (F11_l9 n levels) n9) ((((levels.getD x_2.toNat 0).toNat : Nat) : Int), (IntKind.wrap .i64 (x_2 + (1 : Int))), m0_2)) = some r := h
            refine XS.then ?_
            have hq : (True) ∧ ((True) ∧ ((inR x_2 levels.length) ∧ ((True) ∧ (True)))) := ⟨trivial, ⟨trivial, ⟨inb_ok t7, ⟨trivial, trivial⟩⟩⟩⟩
            refine TS.reg [] ?_ ?_
            · apply prop_of ?_ hq
              kernel_rfl
            refine XS.blockEnd ?_
            refine XS.then ?_
            have hq : (True) ∧ ((True) ∧ (True)) := ⟨trivial, ⟨trivial, trivial⟩⟩
            refine TS.reg [] ?_ ?_
            · apply prop_of ?_ hq
              kernel_rfl
            refine XS.reAny [0] (mkMask 44 [0, 1, 6, 23, 24]) ((((levels.getD x_2.toNat 0).toNat : Nat) : Int), (IntKind.wrap .i64 (x_2 + (1 : Int))), m0_2) h ?_
            kernel_rfl
          · rcases bif_some h with ⟨c8, h⟩ | ⟨c9, h⟩
            · refine TS.cond ((((levels.getD x_2.toNat 0).toNat : Nat) : Int) != level_2) ?_ (fun hcz => ?_) (fun hcz => by rw [c8] at hcz; cases hcz)
              · kernel_rfl
              obtain ⟨t10, h⟩ := test_some h
              have hq : (True) ∧ ((True) ∧ ((inR x_2 ((m0.set x_2.toNat (49 : Int)).length)) ∧ (((x_2.toNat < (m0.set x_2.toNat (49 : Int)).length ∧ (True)) ∧ (m0.set x_2.toNat (49 : Int)).length = (m0.set x_2.toNat (49 : Int)).length) ∧ (True)))) := ⟨trivial, ⟨trivial, ⟨inb_ok t10, ⟨⟨⟨inR_lt (inb_ok t10), trivial⟩, rfl⟩, trivial⟩⟩⟩⟩
              refine TS.reg [] ?_ ?_
              · apply prop_of ?_ hq
                kernel_rfl
              refine XS.reAny [0] (mkMask 44 [0, 6, 7, 23, 24]) ((m0.set x_2.toNat (49 : Int)).set x_2.toNat (48 : Int)) h ?_
              kernel_rfl
            · refine TS.cond ((((levels.getD x_2.toNat 0).toNat : Nat) : Int) != level_2) ?_ (fun hcz => by rw [c9] at hcz; cases hcz) (fun hcz => ?_)
              · kernel_rfl
              refine TS.skip ?_
              refine XS.reAny [0] (mkMask 44 [0, 6, 7, 23, 24]) (m0.set x_2.toNat (49 : Int)) h ?_
              kernel_rfl
        · refine TS.cond (decide (x_2 < (((List.replicate ((levels.length : Nat) : Int).toNat (0 : Int)).length : Nat) : Int))) ?_ (fun hcz => by rw [c5] at hcz; cases hcz) (fun hcz => ?_)
          · kernel_rfl
          refine TS.exit ?_
          refine XS.passE ?_
          refine XS.passE ?_
          refine XS.out ?_
          refine XS.then ?_
          refine TS.seq ?_
          have hq : (True) ∧ ((True) ∧ ((True) ∧ ((True) ∧ (True)))) := ⟨trivial, ⟨trivial, ⟨trivial, ⟨trivial, trivial⟩⟩⟩⟩
          refine TS.reg [] ?_ ?_
          · apply prop_of ?_ hq
            kernel_rfl
          refine XS.then ?_
          refine TS.ret ?_
          obtain rfl : ((strOf m0), (0 : Int)) = r := Option.some.inj h
          exact XS.fin [] ((True) ∧ ((True) ∧ (True))) (by kernel_rfl) ⟨trivial, ⟨trivial, trivial⟩⟩
  · obtain ⟨y_3, hx11, h⟩ := bind_some' h
    rcases bif_some h with ⟨c12, h⟩ | ⟨c13, h⟩
    · have hq : (True) ∧ ((PureC Tryd.prog 28 [(.str levels), (.str ([74, 75] : List UInt8))] (.bool y_3) []) ∧ ((True) ∧ (((True) ∧ (!y_3) = true) ∧ ((True) ∧ (True))))) := ⟨trivial, ⟨F28_ok n levels ([74, 75] : List UInt8) y_3 hx11, ⟨trivial, ⟨⟨trivial, c12⟩, ⟨trivial, trivial⟩⟩⟩⟩⟩
      refine TS.reg [.none, (.call (.bool y_3) []), .none, .dec true] ?_ ?_
      · apply prop_of ?_ hq
        kernel_rfl
      refine XS.reAny [] (mkMask 44 [0, 1, 18]) true h ?_
      kernel_rfl
    · rcases bif_some h with ⟨c14, h⟩ | ⟨c15, h⟩
      · have hq : (True) ∧ ((PureC Tryd.prog 28 [(.str levels), (.str ([74, 75] : List UInt8))] (.bool y_3) []) ∧ ((True) ∧ (((True) ∧ (!y_3) = false) ∧ ((True) ∧ ((True) ∧ (((True) ∧ (level != (74 : Int)) = true) ∧ ((True) ∧ ((True) ∧ ((True) ∧ ((True) ∧ (True))))))))))) := ⟨trivial, ⟨F28_ok n levels ([74, 75] : List UInt8) y_3 hx11, ⟨trivial, ⟨⟨trivial, c13⟩, ⟨trivial, ⟨trivial, ⟨⟨trivial, c14⟩, ⟨trivial, ⟨trivial, ⟨trivial, ⟨trivial, trivial⟩⟩⟩⟩⟩⟩⟩⟩⟩⟩⟩
        refine TS.reg [.none, (.call (.bool y_3) []), .none, .dec false, .none, .none, .dec true] ?_ ?_
        · apply prop_of ?_ hq
          kernel_rfl
        refine XS.reAny [] (mkMask 44 [0, 1, 18]) (level != (75 : Int)) h ?_
        kernel_rfl
      · have hq : (True) ∧ ((PureC Tryd.prog 28 [(.str levels), (.str ([74, 75] : List UInt8))] (.bool y_3) []) ∧ ((True) ∧ (((True) ∧ (!y_3) = false) ∧ ((True) ∧ ((True) ∧ (((True) ∧ (level != (74 : Int)) = false) ∧ ((True) ∧ ((True) ∧ (True))))))))) := ⟨trivial, ⟨F28_ok n levels ([74, 75] : List UInt8) y_3 hx11, ⟨trivial, ⟨⟨trivial, c13⟩, ⟨trivial, ⟨trivial, ⟨⟨trivial, c15⟩, ⟨trivial, ⟨trivial, trivial⟩⟩⟩⟩⟩⟩⟩⟩⟩
        refine TS.reg [.none, (.call (.bool y_3) []), .none, .dec false, .none, .none, .dec false] ?_ ?_
        · apply prop_of ?_ hq
          kernel_rfl
        refine XS.reAny [] (mkMask 44 [0, 1, 18]) false h ?_
        kernel_rfl

/-! plugtree/plugref.Unturn -/
def F12_l4 (n : Nat) (levels : List UInt8) (level : Int) (k12_4 : (Int × (List Int)) → Option ((List UInt8) × Int)) : (Int × (List Int)) → Option ((List UInt8) × Int)
  | (x_2, m0) => (bif (decide (x_2 < (((List.replicate ((levels.length : Nat) : Int).toNat (0 : Int)).length : Nat) : Int))) then (bif inb x_2 m0.length then (bif inb x_2 (((strOf [level]) ++ levels).length) then (bif inb (IntKind.wrap .i64 (x_2 + (1 : Int))) (((strOf [level]) ++ levels).length) then (bif ((((((strOf [level]) ++ levels).getD x_2.toNat 0).toNat : Nat) : Int) == (((((strOf [level]) ++ levels).getD ((IntKind.wrap .i64 (x_2 + (1 : Int))).toNat) 0).toNat : Nat) : Int)) then (bif inb x_2 ((m0.set x_2.toNat (48 : Int)).length) then (k12_4 ((IntKind.wrap .i64 (x_2 + (1 : Int))), ((m0.set x_2.toNat (48 : Int)).set x_2.toNat (49 : Int)))) else none) else (k12_4 ((IntKind.wrap .i64 (x_2 + (1 : Int))), (m0.set x_2.toNat (48 : Int))))) else none) else none) else none) else (some ((strOf m0), (0 : Int))))
def F12_j3 (n : Nat) (levels : List UInt8) (level : Int) : Bool → Option ((List UInt8) × Int)
  | x => (bif x then (some (([] : List UInt8), (1 : Int))) else (bif (decide ((strOf [level]).length + levels.length ≤ 9223372036854775807)) then (bif (decide (0 ≤ ((levels.length : Nat) : Int) ∧ (((levels.length : Nat) : Int) ≤ ((levels.length : Nat) : Int) ∧ ((levels.length : Nat) : Int) * 1 ≤ 140737488355328))) then (loopF (F12_l4 n levels level) n ((0 : Int), (List.replicate ((levels.length : Nat) : Int).toNat (0 : Int)))) else none) else none))
def F12 (n : Nat) (levels : List UInt8) (level : Int) : Option ((List UInt8) × Int) := ((F30 n levels ([74, 75] : List UInt8)).bind fun y_3 => (bif (!y_3) then (F12_j3 n levels level true) else (bif (level != (74 : Int)) then (F12_j3 n levels level (level != (75 : Int))) else (F12_j3 n levels level false))))
theorem F12_ok (n : Nat) (levels : List UInt8) (level : Int) (r : (List UInt8) × Int) (h : F12 n levels level = some r) : PureC Tryd.prog 12 [(.str levels), (.int .u8 level)] (.tup (.cons (.str r.1) (.cons (.int .i64 r.2) .nil))) [] := by
  refine PureC.mkS Tryd.func12 rfl rfl ?_
  intro w0 fz0 hfz
  replace h : ((F30 n levels ([74, 75] : List UInt8)).bind fun y_3 => (bif (!y_3) then (F12_j3 n levels level true) else (bif (level != (74 : Int)) then (F12_j3 n levels level (level != (75 : Int))) else (F12_j3 n levels level false)))) = some r := h
  refine TS.seq ?_
  have hq : (True) ∧ ((True) ∧ (True)) := ⟨trivial, ⟨trivial, trivial⟩⟩
  refine TS.reg [] ?_ ?_
  · apply prop_of ?_ hq
    kernel_rfl
  refine XS.then ?_
  refine TS.seq ?_
  refine TS.seq ?_
  refine TS.cut (D := Bool) (fun d => match d with | x => (mkTs 50 [(0, (.str levels)), (1, (.int .u8 level)), (19, (.bool x))], [])) (fun d => F12_j3 n levels level d = some r) ?_ ?_
  · rintro x h
    replace h : (bif x then (some (([] : List UInt8), (1 : Int))) else (bif (decide ((strOf [level]).length + levels.length ≤ 9223372036854775807)) then (bif (decide (0 ≤ ((levels.length : Nat) : Int) ∧ (((levels.length : Nat) : Int) ≤ ((levels.length : Nat) : Int) ∧ ((levels.length : Nat) : Int) * 1 ≤ 140737488355328))) then (loopF (F12_l4 n levels level) n ((0 : Int), (List.replicate ((levels.length : Nat) : Int).toNat (0 : Int)))) else none) else none)) = some r := h
    refine XS.then ?_
    rcases bif_some h with ⟨c1, h⟩ | ⟨c2, h⟩
    · refine TS.cond x ?_ (fun hcz => ?_) (fun hcz => by rw [c1] at hcz; cases hcz)
      · kernel_rfl
      refine TS.seq ?_
      have hq : (True) ∧ ((True) ∧ (True)) := ⟨trivial, ⟨trivial, trivial⟩⟩
      refine TS.reg [] ?_ ?_
      · apply prop_of ?_ hq
        kernel_rfl
      refine XS.then ?_
      refine TS.ret ?_
      refine XS.passR ?_
      obtain rfl : (([] : List UInt8), (1 : Int)) = r := Option.some.inj h
      exact XS.fin [] ((True) ∧ ((True) ∧ (True))) (by kernel_rfl) ⟨trivial, ⟨trivial, trivial⟩⟩
    · refine TS.cond x ?_ (fun hcz => by rw [c2] at hcz; cases hcz) (fun hcz => ?_)
      · kernel_rfl
      refine TS.skip ?_
      refine XS.then ?_
      refine TS.seq ?_
      obtain ⟨t3, h⟩ := test_some h
      have hq : (True) ∧ (((0 < 1 ∧ True) ∧ (True)) ∧ ((True) ∧ ((True) ∧ (((strOf [level]).length + levels.length ≤ 9223372036854775807) ∧ ((True) ∧ (True)))))) := ⟨trivial, ⟨⟨⟨by decide, trivial⟩, trivial⟩, ⟨trivial, ⟨trivial, ⟨of_decide_eq_true t3, ⟨trivial, trivial⟩⟩⟩⟩⟩⟩
      refine TS.reg [] ?_ ?_
      · apply prop_of ?_ hq
        kernel_rfl
      refine XS.then ?_
      refine TS.seq ?_
      obtain ⟨t4, h⟩ := test_some h
      have hq : (True) ∧ ((True) ∧ ((0 ≤ ((levels.length : Nat) : Int) ∧ (((levels.length : Nat) : Int) ≤ ((levels.length : Nat) : Int) ∧ ((levels.length : Nat) : Int) * 1 ≤ 140737488355328)) ∧ ((True) ∧ (True)))) := ⟨trivial, ⟨trivial, ⟨of_decide_eq_true t4, ⟨trivial, trivial⟩⟩⟩⟩
      refine TS.reg [.none, .none, .sel] ?_ ?_
      · apply prop_of ?_ hq
        kernel_rfl
      refine XS.then ?_
      refine TS.seq ?_
      refine TS.seq ?_
      have hq : (True) ∧ ((True) ∧ ((True) ∧ (True))) := ⟨trivial, ⟨trivial, ⟨trivial, trivial⟩⟩⟩
      refine TS.reg [] ?_ ?_
      · apply prop_of ?_ hq
        kernel_rfl
      refine XS.then ?_
      refine TS.block ?_
      refine TS.reLoop [1] (mkMask 50 [6, 7, 29, 30]) (D := Int × (List Int)) (fun d => match d with | (x_2, m0) => (mkTs 50 [(6, (.str ((strOf [level]) ++ levels))), (7, (.row 0)), (29, (.int .i64 (((List.replicate ((levels.length : Nat) : Int).toNat (0 : Int)).length : Nat) : Int))), (30, (.int .i64 x_2))], [(.row 5 (.int .u8) m0)])) (fun n' d => loopF (F12_l4 n levels level) n' d = some r) n ((0 : Int), (List.replicate ((levels.length : Nat) : Int).toNat (0 : Int))) h ?_ (fun d => loopF_zero _ d r) ?_
      · kernel_rfl
      · rintro n4 ⟨x_2, m0⟩ h
        replace h : (bif (decide (x_2 < (((List.replicate ((levels.length : Nat) : Int).toNat (0 : Int)).length : Nat) : Int))) then (bif inb x_2 m0.length then (bif inb x_2 (((strOf [level]) ++ levels).length) then (bif inb (IntKind.wrap .i64 (x_2 + (1 : Int))) (((strOf [level]) ++ levels).length) then (bif ((((((strOf [level]) ++ levels).getD x_2.toNat 0).toNat : Nat) : Int) == (((((strOf [level]) ++ levels).getD ((IntKind.wrap .i64 (x_2 + (1 : Int))).toNat) 0).toNat : Nat) : Int)) then (bif inb x_2 ((m0.set x_2.toNat (48 : Int)).length) then ((loopF (F12_l4 n levels level) n4) ((IntKind.wrap .i64 (x_2 + (1 : Int))), ((m0.set x_2.toNat (48 : Int)).set x_2.toNat (49 : Int)))) else none) else ((loopF (F12_l4 n levels level) n4) ((IntKind.wrap .i64 (x_2 + (1 : Int))), (m0.set x_2.toNat (48 : Int))))) else none) else none) else none) else (some ((strOf m0), (0 : Int)))) = some r := h
        refine TS.seq ?_
        have hq : (True) ∧ (True) := ⟨trivial, trivial⟩
        refine TS.reg [] ?_ ?_
        · apply prop_of ?_ hq
          kernel_rfl
        refine XS.then ?_
        refine TS.seq ?_
        rcases bif_some h with ⟨c5, h⟩ | ⟨c6, h⟩
        · refine TS.cond (decide (x_2 < (((List.replicate ((levels.length : Nat) : Int).toNat (0 : Int)).length : Nat) : Int))) ?_ (fun hcz => ?_) (fun hcz => by rw [c5] at hcz; cases hcz)
          · kernel_rfl
          refine TS.skip ?_
          refine XS.then ?_
          refine TS.seq ?_
          refine TS.block ?_
          refine TS.seq ?_
          have hq : (True) ∧ ((True) ∧ (True)) := ⟨trivial, ⟨trivial, trivial⟩⟩
          refine TS.reg [] ?_ ?_
          · apply prop_of ?_ hq
            kernel_rfl
          refine XS.then ?_
          refine TS.seq ?_
          obtain ⟨t7, h⟩ := test_some h
          have hq : (True) ∧ ((True) ∧ ((inR x_2 m0.length) ∧ (((x_2.toNat < m0.length ∧ (True)) ∧ m0.length = m0.length) ∧ (True)))) := ⟨trivial, ⟨trivial, ⟨inb_ok t7, ⟨⟨⟨inR_lt (inb_ok t7), trivial⟩, rfl⟩, trivial⟩⟩⟩⟩
          refine TS.reg [] ?_ ?_
          · apply prop_of ?_ hq
            kernel_rfl
          refine XS.then ?_
          refine TS.seq ?_
          obtain ⟨t8, h⟩ := test_some h
          obtain ⟨t9, h⟩ := test_some h
          have hq : ((True) ∧ ((True) ∧ ((inR x_2 (((strOf [level]) ++ levels).length)) ∧ ((True) ∧ ((True) ∧ ((True) ∧ ((inR (IntKind.wrap .i64 (x_2 + (1 : Int))) (((strOf [level]) ++ levels).length)) ∧ ((True) ∧ (True))))))))) ∧ (True) := ⟨⟨trivial, ⟨trivial, ⟨inb_ok t8, ⟨trivial, ⟨trivial, ⟨trivial, ⟨inb_ok t9, ⟨trivial, trivial⟩⟩⟩⟩⟩⟩⟩⟩, trivial⟩
          refine TS.draw 8 [] [] (by kernel_rfl) ?_ ?_
          · apply prop_of ?_ hq
            kernel_rfl
          refine XS.then ?_
          rcases bif_some h with ⟨c10, h⟩ | ⟨c11, h⟩
          · refine TS.cond ((((((strOf [level]) ++ levels).getD x_2.toNat 0).toNat : Nat) : Int) == (((((strOf [level]) ++ levels).getD ((IntKind.wrap .i64 (x_2 + (1 : Int))).toNat) 0).toNat : Nat) : Int)) ?_ (fun hcz => ?_) (fun hcz => by rw [c10] at hcz; cases hcz)
            · kernel_rfl
            obtain ⟨t12, h⟩ := test_some h
            have hq : (True) ∧ ((True) ∧ ((inR x_2 ((m0.set x_2.toNat (48 : Int)).length)) ∧ (((x_2.toNat < (m0.set x_2.toNat (48 : Int)).length ∧ (True)) ∧ (m0.set x_2.toNat (48 : Int)).length = (m0.set x_2.toNat (48 : Int)).length) ∧ (True)))) := ⟨trivial, ⟨trivial, ⟨inb_ok t12, ⟨⟨⟨inR_lt (inb_ok t12), trivial⟩, rfl⟩, trivial⟩⟩⟩⟩
            refine TS.reg [] ?_ ?_
            · apply prop_of ?_ hq
              kernel_rfl
            refine XS.blockEnd ?_
            refine XS.then ?_
            have hq : (True) ∧ ((True) ∧ (True)) := ⟨trivial, ⟨trivial, trivial⟩⟩
            refine TS.reg [] ?_ ?_
            · apply prop_of ?_ hq
              kernel_rfl
            refine XS.reAny [0] (mkMask 50 [6, 7, 29, 30]) ((IntKind.wrap .i64 (x_2 + (1 : Int))), ((m0.set x_2.toNat (48 : Int)).set x_2.toNat (49 : Int))) h ?_
            kernel_rfl
          · refine TS.cond ((((((strOf [level]) ++ levels).getD x_2.toNat 0).toNat : Nat) : Int) == (((((strOf [level]) ++ levels).getD ((IntKind.wrap .i64 (x_2 + (1 : Int))).toNat) 0).toNat : Nat) : Int)) ?_ (fun hcz => by rw [c11] at hcz; cases hcz) (fun hcz => ?_)
            · kernel_rfl
            refine TS.skip ?_
            refine XS.blockEnd ?_
            refine XS.then ?_
            have hq : (True) ∧ ((True) ∧ (True)) := ⟨trivial, ⟨trivial, trivial⟩⟩
            refine TS.reg [] ?_ ?_
            · apply prop_of ?_ hq
              kernel_rfl
            refine XS.reAny [0] (mkMask 50 [6, 7, 29, 30]) ((IntKind.wrap .i64 (x_2 + (1 : Int))), (m0.set x_2.toNat (48 : Int))) h ?_
            kernel_rfl
        · refine TS.cond (decide (x_2 < (((List.replicate ((levels.length : Nat) : Int).toNat (0 : Int)).length : Nat) : Int))) ?_ (fun hcz => by rw [c6] at hcz; cases hcz) (fun hcz => ?_)
          · kernel_rfl
          refine TS.exit ?_
          refine XS.passE ?_
          refine XS.passE ?_
          refine XS.out ?_
          refine XS.then ?_
          refine TS.seq ?_
          have hq : (True) ∧ ((True) ∧ ((True) ∧ ((True) ∧ (True)))) := ⟨trivial, ⟨trivial, ⟨trivial, ⟨trivial, trivial⟩⟩⟩⟩
          refine TS.reg [] ?_ ?_
          · apply prop_of ?_ hq
            kernel_rfl
          refine XS.then ?_
          refine TS.ret ?_
          obtain rfl : ((strOf m0), (0 : Int)) = r := Option.some.inj h
          exact XS.fin [] ((True) ∧ ((True) ∧ (True))) (by kernel_rfl) ⟨trivial, ⟨trivial, trivial⟩⟩
  · obtain ⟨y_3, hx13, h⟩ := bind_some' h
    rcases bif_some h with ⟨c14, h⟩ | ⟨c15, h⟩
    · have hq : (True) ∧ ((PureC Tryd.prog 30 [(.str levels), (.str ([74, 75] : List UInt8))] (.bool y_3) []) ∧ ((True) ∧ (((True) ∧ (!y_3) = true) ∧ ((True) ∧ (True))))) := ⟨trivial, ⟨F30_ok n levels ([74, 75] : List UInt8) y_3 hx13, ⟨trivial, ⟨⟨trivial, c14⟩, ⟨trivial, trivial⟩⟩⟩⟩⟩
      refine TS.reg [.none, (.call (.bool y_3) []), .none, .dec true] ?_ ?_
      · apply prop_of ?_ hq
        kernel_rfl
      refine XS.reAny [] (mkMask 50 [0, 1, 19]) true h ?_
      kernel_rfl
    · rcases bif_some h with ⟨c16, h⟩ | ⟨c17, h⟩
      · have hq : (True) ∧ ((PureC Tryd.prog 30 [(.str levels), (.str ([74, 75] : List UInt8))] (.bool y_3) []) ∧ ((True) ∧ (((True) ∧ (!y_3) = false) ∧ ((True) ∧ ((True) ∧ (((True) ∧ (level != (74 : Int)) = true) ∧ ((True) ∧ ((True) ∧ ((True) ∧ ((True) ∧ (True))))))))))) := ⟨trivial, ⟨F30_ok n levels ([74, 75] : List UInt8) y_3 hx13, ⟨trivial, ⟨⟨trivial, c15⟩, ⟨trivial, ⟨trivial, ⟨⟨trivial, c16⟩, ⟨trivial, ⟨trivial, ⟨trivial, ⟨trivial, trivial⟩⟩⟩⟩⟩⟩⟩⟩⟩⟩⟩
        refine TS.reg [.none, (.call (.bool y_3) []), .none, .dec false, .none, .none, .dec true] ?_ ?_
        · apply prop_of ?_ hq
          kernel_rfl
        refine XS.reAny [] (mkMask 50 [0, 1, 19]) (level != (75 : Int)) h ?_
        kernel_rfl
      · have hq : (True) ∧ ((PureC Tryd.prog 30 [(.str levels), (.str ([74, 75] : List UInt8))] (.bool y_3) []) ∧ ((True) ∧ (((True) ∧ (!y_3) = false) ∧ ((True) ∧ ((True) ∧ (((True) ∧ (level != (74 : Int)) = false) ∧ ((True) ∧ ((True) ∧ (True))))))))) := ⟨trivial, ⟨F30_ok n levels ([74, 75] : List UInt8) y_3 hx13, ⟨trivial, ⟨⟨trivial, c15⟩, ⟨trivial, ⟨trivial, ⟨⟨trivial, c17⟩, ⟨trivial, ⟨trivial, trivial⟩⟩⟩⟩⟩⟩⟩⟩⟩
        refine TS.reg [.none, (.call (.bool y_3) []), .none, .dec false, .none, .none, .dec false] ?_ ?_
        · apply prop_of ?_ hq
          kernel_rfl
        refine XS.reAny [] (mkMask 50 [0, 1, 19]) false h ?_
        kernel_rfl

/-! plugtree/pluglaw.LaneTurns -/
def F3 (n : Nat) (row : List UInt8) (levels : List UInt8) (level : Int) : Option Bool := ((F9 n row level).bind fun y_2 => ((F10 n row level).bind fun y_3 => ((F11 n levels level).bind fun y_4 => ((F12 n levels level).bind fun y_5 => (bif (y_2.1 == y_3.1) then (bif (y_2.2 == y_3.2) then (bif (y_4.1 == y_5.1) then (some (y_4.2 == y_5.2)) else (some false)) else (some false)) else (some false))))))
theorem F3_ok (n : Nat) (row : List UInt8) (levels : List UInt8) (level : Int) (r : Bool) (h : F3 n row levels level = some r) : PureC Tryd.prog 3 [(.str row), (.str levels), (.int .u8 level)] (.bool r) [] := by
  refine PureC.mkS Tryd.func3 rfl rfl ?_
  intro w0 fz0 hfz
  replace h : ((F9 n row level).bind fun y_2 => ((F10 n row level).bind fun y_3 => ((F11 n levels level).bind fun y_4 => ((F12 n levels level).bind fun y_5 => (bif (y_2.1 == y_3.1) then (bif (y_2.2 == y_3.2) then (bif (y_4.1 == y_5.1) then (some (y_4.2 == y_5.2)) else (some false)) else (some false)) else (some false)))))) = some r := h
  refine TS.seq ?_
  have hq : (True) ∧ (True) := ⟨trivial, trivial⟩
  refine TS.reg [] ?_ ?_
  · apply prop_of ?_ hq
    kernel_rfl
  refine XS.then ?_
  refine TS.seq ?_
  obtain ⟨y_2, hx1, h⟩ := bind_some' h
  have hq : (True) ∧ ((True) ∧ ((PureC Tryd.prog 9 [(.str row), (.int .u8 level)] (.tup (.cons (.str y_2.1) (.cons (.int .i64 y_2.2) .nil))) []) ∧ ((True) ∧ ((True) ∧ ((True) ∧ ((True) ∧ ((True) ∧ (True)))))))) := ⟨trivial, ⟨trivial, ⟨F9_ok n row level y_2 hx1, ⟨trivial, ⟨trivial, ⟨trivial, ⟨trivial, ⟨trivial, trivial⟩⟩⟩⟩⟩⟩⟩⟩
  refine TS.reg [.none, .none, (.call (.tup (.cons (.str y_2.1) (.cons (.int .i64 y_2.2) .nil))) [])] ?_ ?_
  · apply prop_of ?_ hq
    kernel_rfl
  refine XS.then ?_
  refine TS.seq ?_
  obtain ⟨y_3, hx2, h⟩ := bind_some' h
  have hq : (True) ∧ ((True) ∧ ((PureC Tryd.prog 10 [(.str row), (.int .u8 level)] (.tup (.cons (.str y_3.1) (.cons (.int .i64 y_3.2) .nil))) []) ∧ ((True) ∧ ((True) ∧ ((True) ∧ ((True) ∧ ((True) ∧ (True)))))))) := ⟨trivial, ⟨trivial, ⟨F10_ok n row level y_3 hx2, ⟨trivial, ⟨trivial, ⟨trivial, ⟨trivial, ⟨trivial, trivial⟩⟩⟩⟩⟩⟩⟩⟩
  refine TS.reg [.none, .none, (.call (.tup (.cons (.str y_3.1) (.cons (.int .i64 y_3.2) .nil))) [])] ?_ ?_
  · apply prop_of ?_ hq
    kernel_rfl
  refine XS.then ?_
  refine TS.seq ?_
  obtain ⟨y_4, hx3, h⟩ := bind_some' h
  have hq : (True) ∧ ((True) ∧ ((PureC Tryd.prog 11 [(.str levels), (.int .u8 level)] (.tup (.cons (.str y_4.1) (.cons (.int .i64 y_4.2) .nil))) []) ∧ ((True) ∧ ((True) ∧ ((True) ∧ ((True) ∧ ((True) ∧ (True)))))))) := ⟨trivial, ⟨trivial, ⟨F11_ok n levels level y_4 hx3, ⟨trivial, ⟨trivial, ⟨trivial, ⟨trivial, ⟨trivial, trivial⟩⟩⟩⟩⟩⟩⟩⟩
  refine TS.reg [.none, .none, (.call (.tup (.cons (.str y_4.1) (.cons (.int .i64 y_4.2) .nil))) [])] ?_ ?_
  · apply prop_of ?_ hq
    kernel_rfl
  refine XS.then ?_
  refine TS.seq ?_
  obtain ⟨y_5, hx4, h⟩ := bind_some' h
  have hq : (True) ∧ ((True) ∧ ((PureC Tryd.prog 12 [(.str levels), (.int .u8 level)] (.tup (.cons (.str y_5.1) (.cons (.int .i64 y_5.2) .nil))) []) ∧ ((True) ∧ ((True) ∧ ((True) ∧ ((True) ∧ ((True) ∧ (True)))))))) := ⟨trivial, ⟨trivial, ⟨F12_ok n levels level y_5 hx4, ⟨trivial, ⟨trivial, ⟨trivial, ⟨trivial, ⟨trivial, trivial⟩⟩⟩⟩⟩⟩⟩⟩
  refine TS.reg [.none, .none, (.call (.tup (.cons (.str y_5.1) (.cons (.int .i64 y_5.2) .nil))) [])] ?_ ?_
  · apply prop_of ?_ hq
    kernel_rfl
  refine XS.then ?_
  refine TS.seq ?_
  rcases bif_some h with ⟨c5, h⟩ | ⟨c6, h⟩
  · rcases bif_some h with ⟨c7, h⟩ | ⟨c8, h⟩
    · rcases bif_some h with ⟨c9, h⟩ | ⟨c10, h⟩
      · have hq : (True) ∧ ((True) ∧ ((True) ∧ (((True) ∧ (y_2.1 == y_3.1) = true) ∧ ((True) ∧ ((True) ∧ ((True) ∧ ((True) ∧ (((True) ∧ (y_2.2 == y_3.2) = true) ∧ ((True) ∧ ((True) ∧ ((True) ∧ ((True) ∧ (((True) ∧ (y_4.1 == y_5.1) = true) ∧ ((True) ∧ ((True) ∧ ((True) ∧ ((True) ∧ ((True) ∧ (True))))))))))))))))))) := ⟨trivial, ⟨trivial, ⟨trivial, ⟨⟨trivial, c5⟩, ⟨trivial, ⟨trivial, ⟨trivial, ⟨trivial, ⟨⟨trivial, c7⟩, ⟨trivial, ⟨trivial, ⟨trivial, ⟨trivial, ⟨⟨trivial, c9⟩, ⟨trivial, ⟨trivial, ⟨trivial, ⟨trivial, ⟨trivial, trivial⟩⟩⟩⟩⟩⟩⟩⟩⟩⟩⟩⟩⟩⟩⟩⟩⟩⟩⟩
        refine TS.reg [.none, .none, .none, .dec true, .none, .none, .none, .none, .dec true, .none, .none, .none, .none, .dec true] ?_ ?_
        · apply prop_of ?_ hq
          kernel_rfl
        refine XS.then ?_
        refine TS.ret ?_
        obtain rfl : (y_4.2 == y_5.2) = r := Option.some.inj h
        exact XS.fin [] ((True) ∧ (True)) (by kernel_rfl) ⟨trivial, trivial⟩
      · have hq : (True) ∧ ((True) ∧ ((True) ∧ (((True) ∧ (y_2.1 == y_3.1) = true) ∧ ((True) ∧ ((True) ∧ ((True) ∧ ((True) ∧ (((True) ∧ (y_2.2 == y_3.2) = true) ∧ ((True) ∧ ((True) ∧ ((True) ∧ ((True) ∧ (((True) ∧ (y_4.1 == y_5.1) = false) ∧ ((True) ∧ ((True) ∧ (True)))))))))))))))) := ⟨trivial, ⟨trivial, ⟨trivial, ⟨⟨trivial, c5⟩, ⟨trivial, ⟨trivial, ⟨trivial, ⟨trivial, ⟨⟨trivial, c7⟩, ⟨trivial, ⟨trivial, ⟨trivial, ⟨trivial, ⟨⟨trivial, c10⟩, ⟨trivial, ⟨trivial, trivial⟩⟩⟩⟩⟩⟩⟩⟩⟩⟩⟩⟩⟩⟩⟩⟩
        refine TS.reg [.none, .none, .none, .dec true, .none, .none, .none, .none, .dec true, .none, .none, .none, .none, .dec false] ?_ ?_
        · apply prop_of ?_ hq
          kernel_rfl
        refine XS.then ?_
        refine TS.ret ?_
        obtain rfl : false = r := Option.some.inj h
        exact XS.fin [] ((True) ∧ (True)) (by kernel_rfl) ⟨trivial, trivial⟩
    · have hq : (True) ∧ ((True) ∧ ((True) ∧ (((True) ∧ (y_2.1 == y_3.1) = true) ∧ ((True) ∧ ((True) ∧ ((True) ∧ ((True) ∧ (((True) ∧ (y_2.2 == y_3.2) = false) ∧ ((True) ∧ ((True) ∧ ((True) ∧ ((True) ∧ (True))))))))))))) := ⟨trivial, ⟨trivial, ⟨trivial, ⟨⟨trivial, c5⟩, ⟨trivial, ⟨trivial, ⟨trivial, ⟨trivial, ⟨⟨trivial, c8⟩, ⟨trivial, ⟨trivial, ⟨trivial, ⟨trivial, trivial⟩⟩⟩⟩⟩⟩⟩⟩⟩⟩⟩⟩⟩
      refine TS.reg [.none, .none, .none, .dec true, .none, .none, .none, .none, .dec false] ?_ ?_
      · apply prop_of ?_ hq
        kernel_rfl
      refine XS.then ?_
      refine TS.ret ?_
      obtain rfl : false = r := Option.some.inj h
      exact XS.fin [] ((True) ∧ (True)) (by kernel_rfl) ⟨trivial, trivial⟩
  · have hq : (True) ∧ ((True) ∧ ((True) ∧ (((True) ∧ (y_2.1 == y_3.1) = false) ∧ ((True) ∧ ((True) ∧ ((True) ∧ ((True) ∧ ((True) ∧ ((True) ∧ (True)))))))))) := ⟨trivial, ⟨trivial, ⟨trivial, ⟨⟨trivial, c6⟩, ⟨trivial, ⟨trivial, ⟨trivial, ⟨trivial, ⟨trivial, ⟨trivial, trivial⟩⟩⟩⟩⟩⟩⟩⟩⟩⟩
    refine TS.reg [.none, .none, .none, .dec false] ?_ ?_
    · apply prop_of ?_ hq
      kernel_rfl
    refine XS.then ?_
    refine TS.ret ?_
    obtain rfl : false = r := Option.some.inj h
    exact XS.fin [] ((True) ∧ (True)) (by kernel_rfl) ⟨trivial, trivial⟩
end Go.Proofs.YthihcmehaekiiaaDoor
